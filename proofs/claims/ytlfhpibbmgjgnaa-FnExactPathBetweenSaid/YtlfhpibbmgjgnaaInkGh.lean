/- Contracts of functions of the program, by the texts that it imports. No conditions. -/
import Derived.Test.YtlfhpibbmgjgnaaInkGg
set_option linter.unusedVariables false
set_option linter.unusedSimpArgs false
/- What the program means: neighbours, drying and running. No conditions. -/
namespace Ink
open Go
structure SpotM where
  x : Int
  y : Int
def spotV (p : SpotM) : DV := spotD p.x p.y
def besideL (x y : Int) : List SpotM := [⟨x, y - 1⟩, ⟨x + 1, y⟩, ⟨x, y + 1⟩, ⟨x - 1, y⟩]
def freeP (s : SheetM) (x y : Int) : Prop := hasP s x y ∧ ¬ waxP s x y
noncomputable instance {s x y} : Decidable (freeP s x y) := Classical.propDecidable _
noncomputable def freeB (s : SheetM) (p : SpotM) : Bool := decide (freeP s p.x p.y)
noncomputable def nbrs (s : SheetM) (x y : Int) : List SpotM := (besideL x y).filter (freeB s)
theorem nbrs_mem {s : SheetM} {x y : Int} {p : SpotM} (h : p ∈ nbrs s x y) : hasP s p.x p.y ∧ ¬ waxP s p.x p.y := by
  have := (List.mem_filter.1 h).2
  unfold freeB at this
  have h2 : freeP s p.x p.y := of_decide_eq_true this
  exact h2
theorem nbrs_len {s : SheetM} {x y : Int} : (nbrs s x y).length ≤ 4 := List.length_filter_le _ _
/-- How many of the first neighbours have no water. -/
def dryCnt (s : SheetM) (l : List SpotM) : Nat → Int
  | 0 => 0
  | i + 1 => dryCnt s l i + (match l[i]? with | some p => (if wetM s p.x p.y = 0 then 1 else 0) | none => 0)
theorem dryCnt_zero {s l} : dryCnt s l 0 = 0 := rfl
theorem dryCnt_yes {s : SheetM} {l : List SpotM} {i : Nat} {p : SpotM} (h : l[i]? = some p) (h2 : wetM s p.x p.y = 0) : dryCnt s l (i + 1) = dryCnt s l i + 1 := by rw [dryCnt, h]; simp [h2]
theorem dryCnt_no {s : SheetM} {l : List SpotM} {i : Nat} {p : SpotM} (h : l[i]? = some p) (h2 : ¬ wetM s p.x p.y = 0) : dryCnt s l (i + 1) = dryCnt s l i := by rw [dryCnt, h]; simp [h2]
theorem dryCnt_bd {s : SheetM} {l : List SpotM} {i : Nat} : 0 ≤ dryCnt s l i ∧ dryCnt s l i ≤ i := by
  induction i with
  | zero => simp [dryCnt]
  | succ i ih =>
    rw [dryCnt]
    split
    · split <;> omega
    · omega
noncomputable def lossM (s : SheetM) (x y : Int) : Int := minM (1 + dryCnt s (nbrs s x y) (nbrs s x y).length) (wetM s x y)
abbrev DryM := SheetM × Int
/-- A round of drying, after the first cells. -/
noncomputable def dryTo (s : SheetM) : Nat → DryM
  | 0 => (s, 0)
  | n + 1 => if wetM s (n % s.w.toNat : Nat) (n / s.w.toNat : Nat) = 0 then dryTo s n
    else ({ (dryTo s n).1 with wet := u2 (dryTo s n).1.wet (n / s.w.toNat) (n % s.w.toNat) (wetM s (n % s.w.toNat : Nat) (n / s.w.toNat : Nat) - lossM s (n % s.w.toNat : Nat) (n / s.w.toNat : Nat)) }, (dryTo s n).2 + lossM s (n % s.w.toNat : Nat) (n / s.w.toNat : Nat))
end Ink
/- Callers whose own blocks may hold pointers; where a list is first to be deleted from. No conditions. -/
namespace Ink
open Go
mutual
theorem ren_in {n : Nat} {σ : Nat → Nat} (h : ∀ i, i < n → σ i = i) : ∀ {a : AV}, inScope n a → ren σ a = a
  | .int _ _, _ => by simp [ren]
  | .bool _, _ => by simp [ren]
  | .str _, _ => by simp [ren]
  | .agg _ _, _ => by simp [ren]
  | .ptr b p τ, hs => by simp only [inScope] at hs; simp [ren, h b hs]
  | .rptr b, hs => by simp only [inScope] at hs; simp [ren, h b hs]
  | .nilp, _ => by simp [ren]
  | .nils, _ => by simp [ren]
  | .wz, _ => by simp [ren]
  | .slc b _ _, hs => by simp only [inScope] at hs; simp [ren, h b hs]
  | .wsl b _, hs => by simp only [inScope] at hs; simp [ren, h b hs]
  | .slk b _ _ _, hs => by simp only [inScope] at hs; simp [ren, h b hs]
  | .fn _ c d, hs => by simp only [inScope] at hs; simp [ren, rens_in h hs.1, rens_in h hs.2]
  | .tup l, hs => by simp only [inScope] at hs; simp [ren, rens_in h hs]
  | .junk, _ => by simp [ren]
  | .raw _, _ => by simp [ren]
  | .mp b, hs => by simp only [inScope] at hs; simp [ren, h b hs]
theorem rens_in {n : Nat} {σ : Nat → Nat} (h : ∀ i, i < n → σ i = i) : ∀ {l : List AV}, inScopes n l → rens σ l = l
  | [], _ => by simp [rens]
  | a :: l, hs => by simp only [inScopes] at hs; simp [rens, ren_in h hs.1, rens_in h hs.2]
end
theorem rens_sg {n : Nat} {τ : List Nat} {l : List AV} (h : inScopes n l) : rens (sg n τ) l = l := rens_in (fun i hi => by unfold sg; rw [if_pos hi]) h
theorem headS {A : Heap} {n : Nat} (h : ∀ B ∈ A, inScopeB n B) : headW n A := fun _ x hi => by
  have h1 : inScope n x := h _ (List.mem_of_getElem? hi)
  exact ⟨h1, fun σ hσ => ren_in hσ h1⟩
theorem weak_s {n : Nat} {E E' : Env} {H H' : Heap} (τ : List Nat) (hn : n ≤ H.length) (hA : H'.take n = H.take n) (hr : ∀ B ∈ H.take n, inScopeB n B) (hnd : τ.Nodup)
    (hT : tailW (sg n τ) H'.length (H.drop n) τ (H'.drop n)) (hE : envW (sg n τ) H'.length E E') : WeakS n E H E' H' := by
  have e : H.take n ++ H'.drop n = H' := by rw [← hA, List.take_append_drop]
  have : WeakS n E H E' (H.take n ++ H'.drop n) := ⟨sg n τ, ⟨H.take n, H.drop n, H'.drop n, τ, (List.take_append_drop n H).symm, by simp; omega, rfl, hnd, headS hr, rfl, by rw [e]; exact hT⟩, by rw [e]; exact hE⟩
  rwa [e] at this
theorem fin_s {n : Nat} {v v' : AV} {H H' : Heap} (τ : List Nat) (hn : n ≤ H.length) (hA : H'.take n = H.take n) (hr : ∀ B ∈ H.take n, inScopeB n B) (hnd : τ.Nodup)
    (hT : tailW (sg n τ) H'.length (H.drop n) τ (H'.drop n)) (hs : inScope H'.length v') (hv : v = ren (sg n τ) v') : fin n v H v' H' := by
  have e : H.take n ++ H'.drop n = H' := by rw [← hA, List.take_append_drop]
  have : fin n v H v' (H.take n ++ H'.drop n) := ⟨sg n τ, ⟨H.take n, H.drop n, H'.drop n, τ, (List.take_append_drop n H).symm, by simp; omega, rfl, hnd, headS hr, rfl, by rw [e]; exact hT⟩, by rw [e]; exact hs, hv⟩
  rwa [e] at this
/-- Where a list is first to be deleted from: its length, if nowhere. -/
def fstD {α : Type} (keep : α → Bool) (l : List α) : Nat := l.findIdx fun v => !keep v
section
variable {α : Type} {keep : α → Bool} {l : List α} {i : Nat} {v : α}
theorem fstD_le : fstD keep l ≤ l.length := List.findIdx_le_length
theorem fstD_hit (h : l[i]? = some v) (hk : keep v = false) (hi : i ≤ fstD keep l) : fstD keep l = i := by
  by_cases h2 : i < fstD keep l
  · have h3 := List.not_of_lt_findIdx h2
    obtain ⟨h6, h4⟩ := List.getElem?_eq_some_iff.1 h
    rw [h4] at h3
    simp [hk] at h3
  · omega
theorem fstD_miss (h : l[i]? = some v) (hk : keep v = true) (hi : i ≤ fstD keep l) : i + 1 ≤ fstD keep l := by
  by_cases h2 : i = fstD keep l
  · exfalso
    have hl : l.findIdx (fun v => !keep v) < l.length := by
      have := (List.getElem?_eq_some_iff.1 h).1
      unfold fstD at h2; omega
    have h3 := List.findIdx_getElem (w := hl)
    have h4 : l[l.findIdx (fun v => !keep v)] = v := by
      have := List.getElem?_eq_some_iff.1 h
      unfold fstD at h2
      subst h2
      exact this.2
    rw [h4] at h3
    simp [hk] at h3
  · omega
theorem fstD_bad (h : fstD keep l < l.length) : keep l[fstD keep l] = false := by
  have := List.findIdx_getElem (p := fun v => !keep v) (xs := l) (w := h)
  exact (Bool.not_eq_true' _).mp this
theorem fstD_before {q : Nat} (hq : q < fstD keep l) (h : l[q]? = some v) : keep v = true := by
  have h3 := List.not_of_lt_findIdx (p := fun v => !keep v) (xs := l) hq
  have h4 := (List.getElem?_eq_some_iff.1 h).2
  rw [h4] at h3
  simpa using h3
/-- Behind the first that is deleted. -/
theorem delTo_fst (h : fstD keep l < l.length) : delTo keep l (fstD keep l + 1) = (l, fstD keep l) := by
  rw [delTo_no (List.getElem?_eq_getElem h) (fstD_bad h), delTo_all (fun q v hq hv => fstD_before hq hv) (by omega)]
theorem fstD_none (h : fstD keep l = l.length) : l.filter keep = l := by
  rw [List.filter_eq_self]
  intro v hv
  obtain ⟨q, hq, rfl⟩ := List.getElem_of_mem hv
  exact fstD_before (by omega) (List.getElem?_eq_getElem hq)
/-- What 'DeleteFunc' leaves: what is kept, and zeros. -/
def delV {α : Type} (keep : α → Bool) (z : α) (l : List α) : List α := l.filter keep ++ List.replicate (l.length - (l.filter keep).length) z
theorem delV_none {z : α} (h : fstD keep l = l.length) : delV keep z l = l := by
  unfold delV; rw [fstD_none h]; simp
theorem delTo_cnt : (delTo keep l l.length).2 = (l.filter keep).length := by
  obtain ⟨h1, h2, _, h4⟩ := delTo_inv (keep := keep) (l := l) (j := l.length)
  have := congrArg List.length (h4 (Nat.le_refl _))
  simp only [List.length_take, List.take_length] at this
  omega
theorem delTo_end {z : α} : (delTo keep l l.length).1.take (delTo keep l l.length).2 ++ List.replicate (l.length - (delTo keep l l.length).2) z = delV keep z l := by
  obtain ⟨h1, h2, _, h4⟩ := delTo_inv (keep := keep) (l := l) (j := l.length)
  rw [h4 (Nat.le_refl _), delTo_cnt, delV, List.take_length]
end
end Ink
/- Contracts at any heap whose blocks may hold pointers. No conditions. -/
namespace Ink
open Go
theorem renB_of {B : Blk} (h : noRef B = true) (κ : Nat → Nat) : renB κ B = B := by cases B <;> first | rfl | simp [noRef] at h
theorem lv_of {B : Blk} (h : noRef B = true) : B.lv = true := by cases B <;> first | rfl | simp [noRef] at h
theorem sc_of {B : Blk} (h : noRef B = true) (n : Nat) : inScopeB n B := by cases B <;> first | trivial | simp [noRef] at h
theorem ACall.at2r {P : Program} {f : FuncId} {args : List AV} {v : AV} {B C : Blk} (h : ACall P [] f args [B, C] v [B, C]) (hlB : B.lv = true) (hlC : C.lv = true) (hsB : inScopeB 2 B) (hsC : inScopeB 2 C) {H : Heap} {b c : Nat}
    (hb : H[b]? = some (renB (kap [b, c] 2 H.length) B)) (hc : H[c]? = some (renB (kap [b, c] 2 H.length) C)) (hne : b ≠ c) {args' : List AV} (hs : inScopes 2 args) (ha : rens (kap [b, c] 2 H.length) args = args') (hv : plain v = true) :
    ACall P [] f args' H v H := by
  subst ha
  have h2 := plain_ren (σ := kap [b, c] 2 H.length) (m := 0) hv
  have := ACall.frame (Hm := [B, C]) (Hm' := [B, C]) (N := []) h rfl (H := H) [b, c] rfl (by simp [hne]) (fun i D hi => by
    match i with
    | 0 => simp at hi; subst hi; simpa using hb
    | 1 => simp at hi; subst hi; simpa using hc
    | i + 2 => simp at hi) hs (fun D hD => by
      simp at hD
      rcases hD with rfl | rfl
      · exact hsB
      · exact hsC) (fun i hi => by simp at hi) (fun D hD => by
      simp at hD
      rcases hD with rfl | rfl
      · exact hlB
      · exact hlC) rfl
  simp only [setAll, List.length_cons, List.length_nil, Nat.zero_add, List.map_nil, List.append_nil] at this
  have e0 : kap [b, c] (1 + 1) H.length 0 = b := by simp [kap]
  have e1 : kap [b, c] (1 + 1) H.length 1 = c := by simp [kap]
  rw [e0, e1, h2.1, set_same hb, set_same hc] at this
  exact this
theorem ACall.at4w {P : Program} {f : FuncId} {args : List AV} {v : AV} {A A' B C D : Blk} (h : ACall P [0] f args [A, B, C, D] v [A', B, C, D]) (hA : noRef A = true) (hA' : noRef A' = true) (hw : A.wr = true) (hw' : A'.wr = true)
    (hl : B.lv = true ∧ C.lv = true ∧ D.lv = true) (hsB : inScopeB 4 B ∧ inScopeB 4 C ∧ inScopeB 4 D) {H : Heap} {a b c d : Nat} (ha : H[a]? = some A)
    (hb : H[b]? = some (renB (kap [a, b, c, d] 4 H.length) B)) (hc : H[c]? = some (renB (kap [a, b, c, d] 4 H.length) C)) (hd : H[d]? = some (renB (kap [a, b, c, d] 4 H.length) D)) (hnd : [a, b, c, d].Nodup)
    {args' : List AV} {v' : AV} (hs : inScopes 4 args) (hargs : rens (kap [a, b, c, d] 4 H.length) args = args') (hv : ren (kap [a, b, c, d] 4 H.length) v = v') :
    ACall P [a] f args' H v' (H.set a A') := by
  subst hargs; subst hv
  have hne : a ≠ b ∧ a ≠ c ∧ a ≠ d := by simp at hnd; omega
  have := ACall.frame (Hm := [A, B, C, D]) (Hm' := [A', B, C, D]) (N := []) h rfl (H := H) [a, b, c, d] rfl hnd (fun i E hi => by
    match i with
    | 0 => simp at hi; subst hi; simpa [renB_of hA] using ha
    | 1 => simp at hi; subst hi; simpa using hb
    | 2 => simp at hi; subst hi; simpa using hc
    | 3 => simp at hi; subst hi; simpa using hd
    | i + 4 => simp at hi) hs (fun E hE => by
      simp at hE
      rcases hE with rfl | rfl | rfl | rfl
      · exact sc_of hA _
      · exact hsB.1
      · exact hsB.2.1
      · exact hsB.2.2) (fun i hi => by
    simp at hi
    subst hi
    refine ⟨by simp, fun E hE => ?_⟩
    simp at hE
    subst hE
    exact hw) (fun E hE => by
      simp at hE
      rcases hE with rfl | rfl | rfl | rfl
      · exact lv_of hA
      · exact hl.1
      · exact hl.2.1
      · exact hl.2.2) (by simp [hw, hw'])
  simp only [setAll, renB_of hA', List.length_cons, List.length_nil, Nat.zero_add, List.map_nil, List.append_nil, List.map_cons] at this
  have e0 : kap [a, b, c, d] (1 + 1 + 1 + 1) H.length 0 = a := by simp [kap]
  have e1 : kap [a, b, c, d] (1 + 1 + 1 + 1) H.length 1 = b := by simp [kap]
  have e2 : kap [a, b, c, d] (1 + 1 + 1 + 1) H.length (1 + 1) = c := by simp [kap]
  have e3 : kap [a, b, c, d] (1 + 1 + 1 + 1) H.length (1 + 1 + 1) = d := by simp [kap]
  rw [e0, e1, e2, e3, set_same (H := H.set a A') (by rw [List.getElem?_set_ne hne.1]; exact hb), set_same (H := H.set a A') (by rw [List.getElem?_set_ne hne.2.1]; exact hc), set_same (H := H.set a A') (by rw [List.getElem?_set_ne hne.2.2]; exact hd)] at this
  exact this
/-- The result holds no pointer; the caller's blocks may. -/
theorem fin_sp {A L : Heap} {v v' : AV} {n : Nat} {H : Heap} (hA : ∀ B ∈ A, inScopeB n B) (hH : H = A ++ L) (hn : A.length = n) (hp : plain v' = true) (hv : v = v') : fin n v H v' A := by
  subst hH; subst hn; subst hv
  obtain ⟨h1, h2⟩ := plain_ren (σ := sg A.length []) (m := A.length) hp
  exact fin_drop (headS hA) h2 h1
theorem in8_has {s : SheetM} {x y : Int} (hm : small s) (hh : hasP s x y) : in8 x y := by
  unfold hasP at hh; omega
end Ink
namespace Ink
open Go
theorem beside_get {x y : Int} {k : Nat} (hk : k < 4) : ∃ p, (besideL x y)[k]? = some p ∧ p ∈ besideL x y := by
  have h : k < (besideL x y).length := by simpa [besideL] using hk
  exact ⟨(besideL x y)[k], List.getElem?_eq_getElem h, List.getElem_mem h⟩
theorem beside_ok8 {x y : Int} {p : SpotM} (h8 : in8 x y) (h : p ∈ besideL x y) : ok8 p.x ∧ ok8 p.y := by
  simp only [besideL, List.mem_cons, List.not_mem_nil, or_false] at h
  rcases h with rfl | rfl | rfl | rfl <;> simp only [ok8] <;> omega
/-- The first of the neighbours. -/
noncomputable def nbTo (s : SheetM) (x y : Int) (k : Nat) : List SpotM := ((besideL x y).take k).filter (freeB s)
section
variable {s : SheetM} {x y : Int} {k : Nat} {p : SpotM}
theorem nbTo_zero : nbTo s x y 0 = [] := rfl
theorem nbTo_yes (h : (besideL x y)[k]? = some p) (hf : freeB s p = true) : nbTo s x y (k + 1) = nbTo s x y k ++ [p] := by
  unfold nbTo
  obtain ⟨h1, h2⟩ := List.getElem?_eq_some_iff.1 h
  rw [List.take_succ_eq_append_getElem h1, h2, List.filter_append]
  simp [hf]
theorem nbTo_no (h : (besideL x y)[k]? = some p) (hf : freeB s p = false) : nbTo s x y (k + 1) = nbTo s x y k := by
  unfold nbTo
  obtain ⟨h1, h2⟩ := List.getElem?_eq_some_iff.1 h
  rw [List.take_succ_eq_append_getElem h1, h2, List.filter_append]
  simp [hf]
theorem nbTo_all : nbTo s x y 4 = nbrs s x y := rfl
theorem nbTo_len : (nbTo s x y k).length ≤ 4 := by
  unfold nbTo
  refine Nat.le_trans (List.length_filter_le _ _) ?_
  simp [besideL]; omega
theorem free_and : freeB s p = (decide (hasP s p.x p.y) && !decide (waxP s p.x p.y)) := by
  unfold freeB
  by_cases hh : hasP s p.x p.y
  · by_cases hw : waxP s p.x p.y
    · rw [decide_eq_true hw, decide_eq_true hh]; exact decide_eq_false (fun h => h.2 hw)
    · rw [decide_eq_false hw, decide_eq_true hh]; exact decide_eq_true ⟨hh, hw⟩
  · rw [decide_eq_false hh]; exact decide_eq_false (fun h => hh h.1)
/-- The i-th neighbour, in either list. -/
theorem nb_get {i : Nat} (hi : i < (nbrs s x y).length) {z : SpotM} : ((delV (freeB s) z (besideL x y)).map spotV)[i]? = some (spotV (nbrs s x y)[i]) ∧ ((nbrs s x y).map spotV)[i]? = some (spotV (nbrs s x y)[i]) ∧ (nbrs s x y)[i]? = some (nbrs s x y)[i] ∧ (nbrs s x y)[i] ∈ nbrs s x y := by
  refine ⟨?_, ?_, List.getElem?_eq_getElem hi, List.getElem_mem hi⟩
  · unfold delV
    rw [List.getElem?_map, List.getElem?_append_left (show i < (List.filter (freeB s) (besideL x y)).length from hi)]
    rw [show (List.filter (freeB s) (besideL x y))[i]? = some (nbrs s x y)[i] from List.getElem?_eq_getElem hi]
    rfl
  · rw [List.getElem?_map, List.getElem?_eq_getElem hi]; rfl
end
end Ink
/- What the program means: rounds of drying. No conditions. -/
namespace Ink
open Go
def wetOk (s : SheetM) : Prop := ∀ y x, y < 8 → x < 8 → 0 ≤ s.wet y x ∧ s.wet y x ≤ 200
theorem valid_wet {s : SheetM} (hv : validS s) : wetOk s := fun y x hy hx => by
  have h := (cell_all (hv.2.2 y hy x hx).2).1
  simpa [wetM] using h
section
variable {s : SheetM} {n m : Nat}
theorem minM_le {a b : Int} : minM a b ≤ a ∧ minM a b ≤ b := by unfold minM; split <;> omega
theorem minM_or {a b : Int} : minM a b = a ∨ minM a b = b := by unfold minM; split <;> simp
theorem div_mod_ne {w : Nat} (hnm : n < m) : ¬ (m / w = n / w ∧ m % w = n % w) := by
  rintro ⟨h1, h2⟩
  have e1 := Nat.div_add_mod n w
  have e2 := Nat.div_add_mod m w
  rw [h1, h2] at e2
  omega
theorem dryTo_same : (dryTo s n).1.w = s.w ∧ (dryTo s n).1.h = s.h ∧ (dryTo s n).1.dye = s.dye ∧ (dryTo s n).1.wax = s.wax := by
  induction n with
  | zero => exact ⟨rfl, rfl, rfl, rfl⟩
  | succ n ih =>
    rw [dryTo]
    split
    · exact ih
    · exact ih
theorem dryTo_later (h : n ≤ m) : (dryTo s n).1.wet (m / s.w.toNat) (m % s.w.toNat) = s.wet (m / s.w.toNat) (m % s.w.toNat) := by
  induction n with
  | zero => rfl
  | succ n ih =>
    rw [dryTo]
    split
    · exact ih (by omega)
    · dsimp only
      rw [u2_at, if_neg (div_mod_ne (by omega))]
      exact ih (by omega)
theorem lossM_bd {x y : Int} (h : 0 ≤ wetM s x y ∧ wetM s x y ≤ 200) : 0 ≤ lossM s x y ∧ lossM s x y ≤ wetM s x y ∧ lossM s x y ≤ 5 ∧ (wetM s x y ≠ 0 → 1 ≤ lossM s x y) := by
  have h1 := dryCnt_bd (s := s) (l := nbrs s x y) (i := (nbrs s x y).length)
  have h2 := nbrs_len (s := s) (x := x) (y := y)
  have h3 := minM_le (a := 1 + dryCnt s (nbrs s x y) (nbrs s x y).length) (b := wetM s x y)
  have h4 := minM_or (a := 1 + dryCnt s (nbrs s x y) (nbrs s x y).length) (b := wetM s x y)
  unfold lossM
  omega
theorem dryTo_ok (hs : s.Ok) (hw : wetOk s) (hm : small s) (hn : n ≤ s.w.toNat * s.h.toNat) : (dryTo s n).1.Ok ∧ wetOk (dryTo s n).1 ∧ 0 ≤ (dryTo s n).2 ∧ (dryTo s n).2 ≤ 5 * n := by
  induction n with
  | zero => exact ⟨hs, hw, Int.le_refl 0, Int.le_refl 0⟩
  | succ n ih =>
    obtain ⟨i1, i2, i3, i4⟩ := ih (by omega)
    have hc := cell_in (w := s.w.toNat) (h := s.h.toNat) (n := n) (by omega)
    have hb : 0 ≤ wetM s ((n % s.w.toNat : Nat) : Int) ((n / s.w.toNat : Nat) : Int) ∧ wetM s ((n % s.w.toNat : Nat) : Int) ((n / s.w.toNat : Nat) : Int) ≤ 200 := by
      have := hw (n / s.w.toNat) (n % s.w.toNat) (by omega) (by omega)
      simp only [wetM, Int.toNat_natCast]
      exact this
    have hl := lossM_bd hb
    rw [dryTo]
    split
    · exact ⟨i1, i2, i3, by omega⟩
    · refine ⟨⟨i1.w, i1.h, fun i j => ?_, i1.dye, i1.wax⟩, fun y x hy hx => ?_, ?_, ?_⟩
      · dsimp only
        rw [u2_at]
        split
        · omega
        · exact i1.wet i j
      · dsimp only
        rw [u2_at]
        split
        · omega
        · exact i2 y x hy hx
      · dsimp only; omega
      · dsimp only; omega
theorem free_same {t : SheetM} (hw : t.w = s.w) (hh : t.h = s.h) (hx : t.wax = s.wax) : freeB t = freeB s := by
  funext p
  rw [free_and, free_and]
  congr 1
  · simp only [hasP, hw, hh]
  · simp only [waxP, hx]
theorem free_dry : freeB (dryTo s n).1 = freeB s := by
  obtain ⟨h1, h2, _, h4⟩ := dryTo_same (s := s) (n := n)
  exact free_same h1 h2 h4
theorem nbrs_dry {x y : Int} : nbrs (dryTo s n).1 x y = nbrs s x y := by unfold nbrs; rw [free_dry]
theorem dryTo_yes (h : wetM s ((n % s.w.toNat : Nat) : Int) ((n / s.w.toNat : Nat) : Int) = 0) : dryTo s (n + 1) = dryTo s n := by rw [dryTo, if_pos h]
theorem dryTo_no (h : ¬ wetM s ((n % s.w.toNat : Nat) : Int) ((n / s.w.toNat : Nat) : Int) = 0) : dryTo s (n + 1) = ({ (dryTo s n).1 with wet := u2 (dryTo s n).1.wet (n / s.w.toNat) (n % s.w.toNat) (wetM s (n % s.w.toNat : Nat) (n / s.w.toNat : Nat) - lossM s (n % s.w.toNat : Nat) (n / s.w.toNat : Nat)) }, (dryTo s n).2 + lossM s (n % s.w.toNat : Nat) (n / s.w.toNat : Nat)) := by rw [dryTo, if_neg h]
noncomputable def dryM (s : SheetM) : DryM := dryTo s (s.w.toNat * s.h.toNat)
/-- What holds of a sheet that dries or runs. -/
structure Fit (s : SheetM) : Prop where
  ok : s.Ok
  wet : wetOk s
  small : small s
theorem dryM_fit (hf : Fit s) : Fit (dryM s).1 ∧ 0 ≤ (dryM s).2 ∧ (dryM s).2 ≤ 320 := by
  have h8 : s.w.toNat * s.h.toNat ≤ 8 * 8 := Nat.mul_le_mul (by have := hf.small; omega) (by have := hf.small; omega)
  obtain ⟨h1, h2, h3, h4⟩ := dryTo_ok (n := s.w.toNat * s.h.toNat) hf.ok hf.wet hf.small (Nat.le_refl _)
  obtain ⟨g1, g2, _, _⟩ := dryTo_same (s := s) (n := s.w.toNat * s.h.toNat)
  exact ⟨⟨h1, h2, by show (0 ≤ (dryM s).1.w ∧ _) ∧ _; unfold dryM; rw [g1, g2]; exact hf.small⟩, h3, by unfold dryM; omega⟩
/-- Rounds of drying: the sheet, and how much water has gone. -/
noncomputable def dryR (s : SheetM) : Nat → DryM
  | 0 => (s, 0)
  | k + 1 => ((dryM (dryR s k).1).1, (dryR s k).2 + (dryM (dryR s k).1).2)
theorem dryR_zero : dryR s 0 = (s, 0) := rfl
theorem dryR_succ {k : Nat} : dryR s (k + 1) = ((dryM (dryR s k).1).1, (dryR s k).2 + (dryM (dryR s k).1).2) := rfl
theorem dryR_fit {k : Nat} (hf : Fit s) : Fit (dryR s k).1 ∧ 0 ≤ (dryR s k).2 ∧ (dryR s k).2 ≤ 320 * k := by
  induction k with
  | zero => exact ⟨hf, Int.le_refl 0, Int.le_refl 0⟩
  | succ k ih =>
    obtain ⟨h1, h2, h3⟩ := ih
    obtain ⟨g1, g2, g3⟩ := dryM_fit h1
    rw [dryR_succ]
    exact ⟨g1, by dsimp only; omega, by dsimp only; omega⟩
theorem nS_fit (h : s.Ok) (hv : validS s) : Fit s := ⟨h, valid_wet hv, valid_small hv⟩
end
end Ink
/- What the program means: rounds and their codes. No conditions. -/
namespace Ink
open Go
noncomputable def rndC (s : SheetM) (r : Int) : Int := codeM s (decide (0 ≤ r ∧ r ≤ 500))
def codeI (c n : Int) : Int := if c = 0 then n else 0
/-- What a function of rounds returns. -/
noncomputable def rndV (R : Nat → DryM) (s : SheetM) (r : Int) : AV := .tup [.agg shSheet (sheetD (codeS (rndC s r) (R r.toNat).1)), .int .i64 (codeI (rndC s r) (R r.toNat).2), .int .i64 (rndC s r)]
section
variable {R : Nat → DryM} {s : SheetM} {r : Int}
theorem rndC_ok (hv : validS s) (hr : 0 ≤ r ∧ r ≤ 500) : rndC s r = 0 := by simp [rndC, codeM, hv, hr]
theorem rndC_rng (hv : validS s) (hr : ¬ (0 ≤ r ∧ r ≤ 500)) : rndC s r = 2 := by unfold rndC codeM; rw [if_pos hv, decide_eq_false hr]; rfl
theorem rndC_bad (hv : ¬ validS s) : rndC s r = 1 := by unfold rndC codeM; rw [if_neg hv]
theorem rndV_ok (h : rndC s r = 0) : rndV R s r = .tup [.agg shSheet (sheetD (R r.toNat).1), .int .i64 (R r.toNat).2, .int .i64 0] := by simp [rndV, h, codeS, codeI]
theorem rndV_ne {d : Int} (h : rndC s r = d) (hd : d ≠ 0) : rndV R s r = .tup [.agg shSheet (sheetD zeroSheet), .int .i64 0, .int .i64 d] := by simp [rndV, h, codeS, codeI, hd]
end
end Ink
/- What the program means: behind how many rounds a sheet is dry; its rings. No conditions. -/
namespace Ink
open Go
section
variable {s : SheetM} {n m : Nat}
theorem dryTo_same' {n : Nat} : (dryTo s n).1.w.toNat = s.w.toNat ∧ (dryTo s n).1.h.toNat = s.h.toNat := by
  obtain ⟨h1, h2, _, _⟩ := dryTo_same (s := s) (n := n); rw [h1, h2]; exact ⟨rfl, rfl⟩
/-- What a cell has that has been dried. -/
theorem dryTo_at (h : m < n) : (dryTo s n).1.wet (m / s.w.toNat) (m % s.w.toNat) = if wetM s ((m % s.w.toNat : Nat) : Int) ((m / s.w.toNat : Nat) : Int) = 0 then 0 else wetM s ((m % s.w.toNat : Nat) : Int) ((m / s.w.toNat : Nat) : Int) - lossM s ((m % s.w.toNat : Nat) : Int) ((m / s.w.toNat : Nat) : Int) := by
  induction n with
  | zero => omega
  | succ n ih =>
    by_cases hm : m = n
    · subst hm
      by_cases h0 : wetM s ((m % s.w.toNat : Nat) : Int) ((m / s.w.toNat : Nat) : Int) = 0
      · rw [dryTo_yes h0, dryTo_later (Nat.le_refl _), if_pos h0]
        simpa only [wetM, Int.toNat_natCast] using h0
      · rw [dryTo_no h0, if_neg h0]
        dsimp only
        rw [u2_at, if_pos ⟨rfl, rfl⟩]
    · have := ih (by omega)
      by_cases h0 : wetM s ((n % s.w.toNat : Nat) : Int) ((n / s.w.toNat : Nat) : Int) = 0
      · rw [dryTo_yes h0]; exact this
      · rw [dryTo_no h0]
        dsimp only
        rw [u2_at, if_neg (fun e => div_mod_ne (n := m) (m := n) (w := s.w.toNat) (by omega) ⟨e.1.symm, e.2.symm⟩)]
        exact this
theorem cell_wet (hf : Fit s) (hn : n < s.w.toNat * s.h.toNat) : 0 ≤ wetM s ((n % s.w.toNat : Nat) : Int) ((n / s.w.toNat : Nat) : Int) ∧ wetM s ((n % s.w.toNat : Nat) : Int) ((n / s.w.toNat : Nat) : Int) ≤ 200 := by
  have hm := hf.small
  have hc := cell_in hn
  have := hf.wet (n / s.w.toNat) (n % s.w.toNat) (by omega) (by omega)
  simp only [wetM, Int.toNat_natCast]
  exact this
theorem gone_iff (hf : Fit s) (hn : n ≤ s.w.toNat * s.h.toNat) : 0 ≤ (dryTo s n).2 ∧ 0 ≤ sumCells s s.wet n ∧ ((dryTo s n).2 = 0 ↔ sumCells s s.wet n = 0) ∧ ((dryTo s n).2 = 0 → ∀ m < n, wetM s ((m % s.w.toNat : Nat) : Int) ((m / s.w.toNat : Nat) : Int) = 0) ∧ ((∀ m < n, wetM s ((m % s.w.toNat : Nat) : Int) ((m / s.w.toNat : Nat) : Int) = 0) → (dryTo s n).2 = 0) := by
  induction n with
  | zero => exact ⟨Int.le_refl 0, Int.le_refl 0, ⟨fun _ => rfl, fun _ => rfl⟩, fun _ m h => by omega, fun _ => rfl⟩
  | succ n ih =>
    obtain ⟨i1, i2, i3, i4, i5⟩ := ih (by omega)
    have hb := cell_wet hf (n := n) (by omega)
    have hl := lossM_bd hb
    have e : s.wet (n / s.w.toNat) (n % s.w.toNat) = wetM s ((n % s.w.toNat : Nat) : Int) ((n / s.w.toNat : Nat) : Int) := rfl
    rw [sumCells_succ, e]
    by_cases h0 : wetM s ((n % s.w.toNat : Nat) : Int) ((n / s.w.toNat : Nat) : Int) = 0
    · rw [dryTo_yes h0, h0]
      refine ⟨i1, by omega, by rw [i3]; omega, fun h m hm => ?_, fun h => i5 fun m hm => h m (by omega)⟩
      by_cases hmn : m = n
      · subst hmn; exact h0
      · exact i4 h m (by omega)
    · rw [dryTo_no h0]
      dsimp only
      have := hl.2.2.2 h0
      refine ⟨by omega, by omega, by omega, fun h => by omega, fun h => absurd (h n (by omega)) h0⟩
theorem dryR_wh {k : Nat} : (dryR s k).1.w = s.w ∧ (dryR s k).1.h = s.h ∧ (dryR s k).1.wax = s.wax := by
  induction k with
  | zero => exact ⟨rfl, rfl, rfl⟩
  | succ k ih =>
    obtain ⟨h1, h2, _, h4⟩ := dryTo_same (s := (dryR s k).1) (n := (dryR s k).1.w.toNat * (dryR s k).1.h.toNat)
    rw [dryR_succ]
    exact ⟨h1.trans ih.1, h2.trans ih.2.1, h4.trans ih.2.2⟩
/-- A cell has at most so much water behind so many rounds. -/
theorem dryR_bd (hf : Fit s) {k : Nat} (hn : n < s.w.toNat * s.h.toNat) : wetM (dryR s k).1 ((n % s.w.toNat : Nat) : Int) ((n / s.w.toNat : Nat) : Int) = 0 ∨ wetM (dryR s k).1 ((n % s.w.toNat : Nat) : Int) ((n / s.w.toNat : Nat) : Int) ≤ 200 - k := by
  induction k with
  | zero => right; have := cell_wet hf hn; show wetM s _ _ ≤ 200 - ((0 : Nat) : Int); omega
  | succ k ih =>
    obtain ⟨hk, _, _⟩ := dryR_fit (k := k) hf
    obtain ⟨w1, w2, _⟩ := dryR_wh (s := s) (k := k)
    have hn' : n < (dryR s k).1.w.toNat * (dryR s k).1.h.toNat := by rw [w1, w2]; exact hn
    have ha := dryTo_at (s := (dryR s k).1) hn'
    rw [w1] at ha
    have hb := cell_wet hk hn'
    rw [w1] at hb
    have hl := lossM_bd hb
    have e : wetM (dryR s (k + 1)).1 ((n % s.w.toNat : Nat) : Int) ((n / s.w.toNat : Nat) : Int) = (dryTo (dryR s k).1 (s.w.toNat * (dryR s k).1.h.toNat)).1.wet (n / s.w.toNat) (n % s.w.toNat) := by
      rw [dryR_succ]; unfold dryM; rw [w1]; rfl
    rw [e, ha]
    split
    · left; rfl
    · rename_i h0
      right
      rcases ih with h | h
      · exact absurd h h0
      · have := hl.2.2.2 h0; omega
noncomputable def goneB (s : SheetM) (k : Nat) : Bool := decide ((dryM (dryR s k).1).2 = 0)
theorem gone_200 (hf : Fit s) : goneB s 200 = true := by
  obtain ⟨hk, _, _⟩ := dryR_fit (k := 200) hf
  obtain ⟨w1, w2, _⟩ := dryR_wh (s := s) (k := 200)
  refine decide_eq_true ((gone_iff hk (Nat.le_refl _)).2.2.2.2 fun m hm => ?_)
  rw [w1] at hm ⊢
  rw [w2] at hm
  rcases dryR_bd hf (k := 200) hm with h | h
  · exact h
  · have := (cell_wet hk (n := m) (by rw [w1, w2]; exact hm)).1
    rw [w1] at this
    omega
/-- Behind how many rounds a sheet is dry. -/
noncomputable def dryK (s : SheetM) : Nat := (List.range 201).findIdx (goneB s)
theorem dryK_le (hf : Fit s) : dryK s ≤ 200 := by
  have : dryK s < (List.range 201).length := List.findIdx_lt_length_of_exists ⟨200, List.mem_range.2 (by omega), gone_200 hf⟩
  simp at this
  omega
theorem dryK_at (hf : Fit s) : (dryM (dryR s (dryK s)).1).2 = 0 := by
  have hl : (List.range 201).findIdx (goneB s) < (List.range 201).length := List.findIdx_lt_length_of_exists ⟨200, List.mem_range.2 (by omega), gone_200 hf⟩
  have := List.findIdx_getElem (w := hl)
  rw [List.getElem_range] at this
  exact of_decide_eq_true this
theorem dryK_before (hf : Fit s) {k : Nat} (h : k < dryK s) : (dryM (dryR s k).1).2 ≠ 0 := by
  have hl := dryK_le hf
  have := List.not_of_lt_findIdx (p := goneB s) (xs := List.range 201) h
  rw [List.getElem_range] at this
  exact of_decide_eq_false this
theorem dryK_iff (hf : Fit s) {k : Nat} (h : k ≤ dryK s) : (dryM (dryR s k).1).2 = 0 ↔ k = dryK s := by
  constructor
  · intro h0
    by_cases hk : k < dryK s
    · exact absurd h0 (dryK_before hf hk)
    · omega
  · rintro rfl; exact dryK_at hf
theorem water_iff (hf : Fit s) {k : Nat} (h : k ≤ dryK s) : 0 < sumCells (dryR s k).1 (dryR s k).1.wet ((dryR s k).1.w.toNat * (dryR s k).1.h.toNat) ↔ k < dryK s := by
  obtain ⟨hk, _, _⟩ := dryR_fit (k := k) hf
  have h1 := gone_iff hk (Nat.le_refl _)
  have h2 := dryK_iff hf h
  unfold dryM at h2
  rw [h1.2.2.1] at h2
  have h3 := h1.2.1
  omega
end
end Ink
/- What the program means: rings. No conditions. -/
namespace Ink
open Go
open Classical in
/-- Cells up to a place are '-1' (if they are such), and others are '0'. -/
noncomputable def upG (P : Nat → Nat → Prop) (y x : Nat) : Nat → Nat → Int := fun j i => if ((j < y ∧ i < 8) ∨ (j = y ∧ i < x)) ∧ P j i then -1 else 0
section
variable {P : Nat → Nat → Prop} {y x : Nat} {s : SheetM}
theorem upG_zero : upG P 0 0 = fun _ _ => 0 := by funext j i; unfold upG; rw [if_neg (by omega)]
theorem upG_row : upG P y 8 = upG P (y + 1) 0 := by
  funext j i; unfold upG
  have : (((j < y ∧ i < 8) ∨ (j = y ∧ i < 8)) ∧ P j i) ↔ (((j < y + 1 ∧ i < 8) ∨ (j = y + 1 ∧ i < 0)) ∧ P j i) := by
    constructor
    · rintro ⟨h, h2⟩; exact ⟨by omega, h2⟩
    · rintro ⟨h, h2⟩; exact ⟨by omega, h2⟩
  by_cases h : (((j < y ∧ i < 8) ∨ (j = y ∧ i < 8)) ∧ P j i)
  · rw [if_pos h, if_pos (this.1 h)]
  · rw [if_neg h, if_neg (fun g => h (this.2 g))]
theorem upG_yes (hx : x < 8) (h : P y x) : upG P y (x + 1) = u2 (upG P y x) y x (-1) := by
  funext j i
  rw [u2_at]
  unfold upG
  by_cases he : j = y ∧ i = x
  · rw [if_pos he, if_pos ⟨by omega, by rw [he.1, he.2]; exact h⟩]
  · rw [if_neg he]
    by_cases g : ((j < y ∧ i < 8) ∨ (j = y ∧ i < x)) ∧ P j i
    · rw [if_pos g, if_pos ⟨by omega, g.2⟩]
    · rw [if_neg g, if_neg (fun g2 => g ⟨by omega, g2.2⟩)]
theorem upG_no (h : ¬ P y x) : upG P y (x + 1) = upG P y x := by
  funext j i
  unfold upG
  by_cases g : ((j < y ∧ i < 8) ∨ (j = y ∧ i < x)) ∧ P j i
  · rw [if_pos g, if_pos ⟨by omega, g.2⟩]
  · rw [if_neg g, if_neg]
    rintro ⟨g1, g2⟩
    by_cases he : j = y ∧ i = x
    · rw [he.1, he.2] at g2; exact h g2
    · exact g ⟨by omega, g2⟩
/-- Cells that are not waxed become '0'. -/
noncomputable def zeroC (s : SheetM) : Nat → Nat → Nat → Int
  | 0 => upG (fun _ _ => True) 8 0
  | n + 1 => if waxP s ((n % s.w.toNat : Nat) : Int) ((n / s.w.toNat : Nat) : Int) then zeroC s n else u2 (zeroC s n) (n / s.w.toNat) (n % s.w.toNat) 0
theorem zeroC_yes {n : Nat} (h : waxP s ((n % s.w.toNat : Nat) : Int) ((n / s.w.toNat : Nat) : Int)) : zeroC s (n + 1) = zeroC s n := by rw [zeroC, if_pos h]
theorem zeroC_no {n : Nat} (h : ¬ waxP s ((n % s.w.toNat : Nat) : Int) ((n / s.w.toNat : Nat) : Int)) : zeroC s (n + 1) = u2 (zeroC s n) (n / s.w.toNat) (n % s.w.toNat) 0 := by rw [zeroC, if_neg h]
noncomputable def ring0 (s : SheetM) : Nat → Nat → Int := upG (fun j i => ¬ freeP s (i : Int) (j : Int)) 8 0
theorem zeroC_in {n j i : Nat} (h : ∃ m, m < n ∧ m / s.w.toNat = j ∧ m % s.w.toNat = i ∧ ¬ waxP s (i : Int) (j : Int)) : zeroC s n j i = 0 := by
  induction n with
  | zero => obtain ⟨m, hm, _⟩ := h; omega
  | succ n ih =>
    obtain ⟨m, hm, h1, h2, h3⟩ := h
    by_cases hw : waxP s ((n % s.w.toNat : Nat) : Int) ((n / s.w.toNat : Nat) : Int)
    · rw [zeroC_yes hw]
      by_cases hmn : m = n
      · subst hmn; rw [h1, h2] at hw; exact absurd hw h3
      · exact ih ⟨m, by omega, h1, h2, h3⟩
    · rw [zeroC_no hw, u2_at]
      split
      · rfl
      · rename_i hne
        by_cases hmn : m = n
        · subst hmn; exact absurd ⟨h1.symm, h2.symm⟩ hne
        · exact ih ⟨m, by omega, h1, h2, h3⟩
theorem zeroC_out {n j i : Nat} (h : ¬ ∃ m, m < n ∧ m / s.w.toNat = j ∧ m % s.w.toNat = i ∧ ¬ waxP s (i : Int) (j : Int)) : zeroC s n j i = upG (fun _ _ => True) 8 0 j i := by
  induction n with
  | zero => rfl
  | succ n ih =>
    have ih' := ih (fun ⟨m, hm, hr⟩ => h ⟨m, by omega, hr⟩)
    by_cases hw : waxP s ((n % s.w.toNat : Nat) : Int) ((n / s.w.toNat : Nat) : Int)
    · rw [zeroC_yes hw]; exact ih'
    · rw [zeroC_no hw, u2_at, if_neg]
      · exact ih'
      · rintro ⟨h1, h2⟩
        exact h ⟨n, by omega, h1.symm, h2.symm, by rw [h1, h2]; exact hw⟩
theorem zeroC_all (hm : small s) : zeroC s (s.w.toNat * s.h.toNat) = ring0 s := by
  funext j i
  unfold ring0
  by_cases h : ∃ m, m < s.w.toNat * s.h.toNat ∧ m / s.w.toNat = j ∧ m % s.w.toNat = i ∧ ¬ waxP s (i : Int) (j : Int)
  · rw [zeroC_in h]
    obtain ⟨m, hlt, h1, h2, h3⟩ := h
    have hc := cell_in hlt
    rw [h1, h2] at hc
    unfold upG
    rw [if_neg]
    rintro ⟨_, g⟩
    exact g ⟨by unfold hasP; omega, h3⟩
  · rw [zeroC_out h]
    unfold upG
    by_cases hb : j < 8 ∧ i < 8
    · rw [if_pos ⟨by omega, trivial⟩, if_pos]
      refine ⟨by omega, fun g => h ⟨s.w.toNat * j + i, ?_, ?_, ?_, ?_⟩⟩
      · have hh := g.1
        unfold hasP at hh
        have : s.w.toNat * (j + 1) ≤ s.w.toNat * s.h.toNat := Nat.mul_le_mul_left _ (by omega)
        rw [Nat.mul_add] at this
        omega
      · have hh := g.1
        unfold hasP at hh
        rw [Nat.mul_add_div (by omega), Nat.div_eq_of_lt (by omega)]; omega
      · have hh := g.1
        unfold hasP at hh
        rw [Nat.mul_add_mod, Nat.mod_eq_of_lt (by omega)]
      · exact g.2
    · rw [if_neg (by omega), if_neg (by omega)]
/-- The rings of a round, after the first cells. -/
noncomputable def ringC (o t : SheetM) (W : Nat) (r : Int) (g : Nat → Nat → Int) : Nat → Nat → Nat → Int
  | 0 => g
  | n + 1 => if 0 < wetM o ((n % W : Nat) : Int) ((n / W : Nat) : Int) ∧ wetM t ((n % W : Nat) : Int) ((n / W : Nat) : Int) = 0 then u2 (ringC o t W r g n) (n / W) (n % W) r else ringC o t W r g n
variable {o t : SheetM} {W n : Nat} {r : Int} {g : Nat → Nat → Int}
theorem ringC_zero : ringC o t W r g 0 = g := rfl
theorem ringC_yes (h1 : 0 < wetM o ((n % W : Nat) : Int) ((n / W : Nat) : Int)) (h2 : wetM t ((n % W : Nat) : Int) ((n / W : Nat) : Int) = 0) : ringC o t W r g (n + 1) = u2 (ringC o t W r g n) (n / W) (n % W) r := by rw [ringC, if_pos ⟨h1, h2⟩]
theorem ringC_no1 (h1 : ¬ 0 < wetM o ((n % W : Nat) : Int) ((n / W : Nat) : Int)) : ringC o t W r g (n + 1) = ringC o t W r g n := by rw [ringC, if_neg (fun h => h1 h.1)]
theorem ringC_no2 (h2 : ¬ wetM t ((n % W : Nat) : Int) ((n / W : Nat) : Int) = 0) : ringC o t W r g (n + 1) = ringC o t W r g n := by rw [ringC, if_neg (fun h => h2 h.2)]
noncomputable def ringR (s : SheetM) : Nat → Nat → Nat → Int
  | 0 => ring0 s
  | k + 1 => ringC (dryR s k).1 (dryR s (k + 1)).1 s.w.toNat ((k : Int) + 1) (ringR s k) (s.w.toNat * s.h.toNat)
theorem ringR_zero : ringR s 0 = ring0 s := rfl
theorem ringR_succ {k : Nat} : ringR s (k + 1) = ringC (dryR s k).1 (dryR s (k + 1)).1 s.w.toNat ((k : Int) + 1) (ringR s k) (s.w.toNat * s.h.toNat) := rfl
noncomputable def ringsM (s : SheetM) : Nat → Nat → Int := ringR s (dryK s)
open Classical in
noncomputable def ringsV (s : SheetM) : AV := .tup [.agg (.arr 8 (.arr 8 (.int .i16))) (a2 .i16 (if validS s then ringsM s else fun _ _ => 0)), .int .i64 (if validS s then 0 else 1)]
theorem ringsV_ok (hv : validS s) : ringsV s = .tup [.agg (.arr 8 (.arr 8 (.int .i16))) (a2 .i16 (ringsM s)), .int .i64 0] := by unfold ringsV; rw [if_pos hv, if_pos hv]
theorem ringsV_bad (hv : ¬ validS s) : ringsV s = .tup [.agg (.arr 8 (.arr 8 (.int .i16))) (a2 .i16 fun _ _ => 0), .int .i64 1] := by unfold ringsV; rw [if_neg hv, if_neg hv]
open Classical in
noncomputable def driesV (s : SheetM) : AV := .tup [.int .i64 (if validS s then (dryK s : Nat) else 0), .int .i64 (if validS s then 0 else 1)]
theorem driesV_ok (hv : validS s) : driesV s = .tup [.int .i64 (dryK s : Nat), .int .i64 0] := by unfold driesV; rw [if_pos hv, if_pos hv]
theorem driesV_bad (hv : ¬ validS s) : driesV s = .tup [.int .i64 0, .int .i64 1] := by unfold driesV; rw [if_neg hv, if_neg hv]
end
end Ink
/- What the program means: units that are given, and rounds of running. No conditions. -/
namespace Ink
open Go
abbrev gvN (s : SheetM) (x y : Int) (p : SpotM) (w : Int) (k : Nat) : Int := minM ((s.dye y.toNat x.toNat k).tdiv w) (1000 - s.dye p.y.toNat p.x.toNat k)
def give1 (s : SheetM) (x y : Int) (p : SpotM) (w : Int) (k : Nat) : SheetM :=
  { s with dye := u3 (u3 s.dye y.toNat x.toNat k (s.dye y.toNat x.toNat k - gvN s x y p w k)) p.y.toNat p.x.toNat k (s.dye p.y.toNat p.x.toNat k + gvN s x y p w k) }
def giveI (s : SheetM) (x y : Int) (p : SpotM) (w : Int) : Nat → SheetM
  | 0 => s
  | k + 1 => give1 (giveI s x y p w k) x y p w k
def giveM (s : SheetM) (x y : Int) (p : SpotM) : SheetM :=
  { giveI s x y p (wetM s x y) 3 with wet := u2 (u2 s.wet y.toNat x.toNat (wetM s x y - 1)) p.y.toNat p.x.toNat (wetM s p.x p.y + 1) }
/-- What holds of a sheet that runs. -/
structure Flow (s : SheetM) : Prop where
  fit : Fit s
  dye : dyeOk s
theorem nS_flow {s : SheetM} (h : s.Ok) (hv : validS s) : Flow s := ⟨nS_fit h hv, valid_dye hv⟩
section
variable {s : SheetM} {x y w : Int} {p : SpotM} {k : Nat}
theorem giveI_zero : giveI s x y p w 0 = s := rfl
theorem giveI_succ : giveI s x y p w (k + 1) = give1 (giveI s x y p w k) x y p w k := rfl
theorem quo_bd {d : Int} (hd : 0 ≤ d ∧ d ≤ 1000) (hw : 1 ≤ w) : 0 ≤ d.tdiv w ∧ d.tdiv w ≤ d := by
  rw [Int.tdiv_eq_ediv_of_nonneg hd.1]
  exact ⟨Int.ediv_nonneg hd.1 (by omega), Int.ediv_le_self w hd.1⟩
theorem gvN_bd (hd : dyeOk s) (h8 : in8 x y) (g8 : in8 p.x p.y) (hw : 1 ≤ w) (hk : k < 3) : (0 ≤ (s.dye y.toNat x.toNat k).tdiv w ∧ (s.dye y.toNat x.toNat k).tdiv w ≤ 1000) ∧ (0 ≤ s.dye y.toNat x.toNat k ∧ s.dye y.toNat x.toNat k ≤ 1000) ∧ (0 ≤ s.dye p.y.toNat p.x.toNat k ∧ s.dye p.y.toNat p.x.toNat k ≤ 1000) ∧ 0 ≤ gvN s x y p w k ∧ gvN s x y p w k ≤ s.dye y.toNat x.toNat k ∧ gvN s x y p w k ≤ 1000 - s.dye p.y.toNat p.x.toNat k := by
  have h1 := hd y.toNat x.toNat k (by omega) (by omega) hk
  have h2 := hd p.y.toNat p.x.toNat k (by omega) (by omega) hk
  have h3 := quo_bd h1 hw
  have h4 := minM_le (a := (s.dye y.toNat x.toNat k).tdiv w) (b := 1000 - s.dye p.y.toNat p.x.toNat k)
  have h5 := minM_or (a := (s.dye y.toNat x.toNat k).tdiv w) (b := 1000 - s.dye p.y.toNat p.x.toNat k)
  unfold gvN
  omega
theorem give1_ok (hd : dyeOk s) (h8 : in8 x y) (g8 : in8 p.x p.y) (hw : 1 ≤ w) (hk : k < 3) : dyeOk (give1 s x y p w k) := by
  intro j i q hj hi hq
  have h := gvN_bd hd h8 g8 hw hk
  unfold give1
  dsimp only
  rw [u3_at, u3_at]
  split
  · omega
  · split
    · omega
    · exact hd j i q hj hi hq
theorem giveI_ok (hd : dyeOk s) (h8 : in8 x y) (g8 : in8 p.x p.y) (hw : 1 ≤ w) : ∀ k, k ≤ 3 → dyeOk (giveI s x y p w k) := by
  intro k
  induction k with
  | zero => exact fun _ => hd
  | succ k ih => exact fun hk => give1_ok (ih (by omega)) h8 g8 hw (by omega)
theorem giveI_same : (giveI s x y p w k).w = s.w ∧ (giveI s x y p w k).h = s.h ∧ (giveI s x y p w k).wet = s.wet ∧ (giveI s x y p w k).wax = s.wax := by
  induction k with
  | zero => exact ⟨rfl, rfl, rfl, rfl⟩
  | succ k ih => exact ih
theorem give1_sok (hs : s.Ok) (hd : dyeOk s) (h8 : in8 x y) (g8 : in8 p.x p.y) (hw : 1 ≤ w) (hk : k < 3) : (give1 s x y p w k).Ok := by
  have h := gvN_bd hd h8 g8 hw hk
  refine ⟨hs.w, hs.h, hs.wet, fun i j q => ?_, hs.wax⟩
  unfold give1
  dsimp only
  rw [u3_at, u3_at]
  split
  · omega
  · split
    · omega
    · exact hs.dye i j q
theorem giveI_sok (hs : s.Ok) (hd : dyeOk s) (h8 : in8 x y) (g8 : in8 p.x p.y) (hw : 1 ≤ w) : ∀ k, k ≤ 3 → (giveI s x y p w k).Ok := by
  intro k
  induction k with
  | zero => exact fun _ => hs
  | succ k ih => exact fun hk => give1_sok (ih (by omega)) (giveI_ok hd h8 g8 hw k (by omega)) h8 g8 hw (by omega)
theorem giveM_same : (giveM s x y p).w = s.w ∧ (giveM s x y p).h = s.h ∧ (giveM s x y p).wax = s.wax := ⟨giveI_same.1, giveI_same.2.1, giveI_same.2.2.2⟩
theorem giveM_flow (hf : Flow s) (h8 : in8 x y) (g8 : in8 p.x p.y) (h1 : 1 ≤ wetM s x y) (h2 : wetM s p.x p.y ≤ 199) : Flow (giveM s x y p) := by
  have hb : 0 ≤ wetM s x y ∧ wetM s x y ≤ 200 := hf.fit.wet _ _ (by omega) (by omega)
  have hb2 : 0 ≤ wetM s p.x p.y ∧ wetM s p.x p.y ≤ 200 := hf.fit.wet _ _ (by omega) (by omega)
  have hso := giveI_sok hf.fit.ok hf.dye h8 g8 h1 3 (Nat.le_refl 3)
  have hdo := giveI_ok hf.dye h8 g8 h1 3 (Nat.le_refl 3)
  obtain ⟨e1, e2, e3, e4⟩ := giveI_same (s := s) (x := x) (y := y) (p := p) (w := wetM s x y) (k := 3)
  refine ⟨⟨⟨hso.w, hso.h, fun i j => ?_, hso.dye, hso.wax⟩, fun j i hj hi => ?_, ?_⟩, hdo⟩
  · unfold giveM
    dsimp only
    rw [u2_at, u2_at]
    split
    · omega
    · split
      · omega
      · exact hf.fit.ok.wet i j
  · unfold giveM
    dsimp only
    rw [u2_at, u2_at]
    split
    · omega
    · split
      · omega
      · exact hf.fit.wet j i hj hi
  · show (0 ≤ (giveI s x y p (wetM s x y) 3).w ∧ _) ∧ _
    rw [e1]
    refine ⟨hf.fit.small.1, ?_⟩
    show 0 ≤ (giveI s x y p (wetM s x y) 3).h ∧ (giveI s x y p (wetM s x y) 3).h ≤ 8
    rw [e2]
    exact hf.fit.small.2
theorem nbrs_ne (h : p ∈ nbrs s x y) : ¬ (x = p.x ∧ y = p.y) := by
  have := (List.mem_filter.1 h).1
  simp only [besideL, List.mem_cons, List.not_mem_nil, or_false] at this
  rcases this with rfl | rfl | rfl | rfl <;> dsimp only <;> omega
/-- A cell gives to its first neighbours. -/
noncomputable def runI (t : DryM) (x y : Int) (l : List SpotM) : Nat → DryM
  | 0 => t
  | i + 1 => match l[i]? with
    | some p => if 2 ≤ wetM (runI t x y l i).1 x y - wetM (runI t x y l i).1 p.x p.y then (giveM (runI t x y l i).1 x y p, (runI t x y l i).2 + 1) else runI t x y l i
    | none => runI t x y l i
variable {t : DryM} {l : List SpotM} {i n : Nat}
theorem runI_zero : runI t x y l 0 = t := rfl
theorem runI_yes (h : l[i]? = some p) (h2 : 2 ≤ wetM (runI t x y l i).1 x y - wetM (runI t x y l i).1 p.x p.y) : runI t x y l (i + 1) = (giveM (runI t x y l i).1 x y p, (runI t x y l i).2 + 1) := by rw [runI, h]; exact if_pos h2
theorem runI_no (h : l[i]? = some p) (h2 : ¬ 2 ≤ wetM (runI t x y l i).1 x y - wetM (runI t x y l i).1 p.x p.y) : runI t x y l (i + 1) = runI t x y l i := by rw [runI, h]; exact if_neg h2
theorem runI_inv (hf : Flow t.1) (h8 : in8 x y) (hl : ∀ p ∈ l, in8 p.x p.y) (ht : 0 ≤ t.2) : Flow (runI t x y l i).1 ∧ (runI t x y l i).1.w = t.1.w ∧ (runI t x y l i).1.h = t.1.h ∧ (runI t x y l i).1.wax = t.1.wax ∧ t.2 ≤ (runI t x y l i).2 ∧ (runI t x y l i).2 ≤ t.2 + i := by
  induction i with
  | zero => exact ⟨hf, rfl, rfl, rfl, Int.le_refl _, by show t.2 ≤ t.2 + ((0 : Nat) : Int); omega⟩
  | succ i ih =>
    obtain ⟨i1, i2, i3, i4, i5, i6⟩ := ih
    by_cases hi : i < l.length
    · have hp : l[i]? = some l[i] := List.getElem?_eq_getElem hi
      have g8 := hl _ (List.getElem_mem hi)
      by_cases h2 : 2 ≤ wetM (runI t x y l i).1 x y - wetM (runI t x y l i).1 l[i].x l[i].y
      · have hb : 0 ≤ wetM (runI t x y l i).1 x y ∧ wetM (runI t x y l i).1 x y ≤ 200 := i1.fit.wet _ _ (by omega) (by omega)
        have hb2 : 0 ≤ wetM (runI t x y l i).1 l[i].x l[i].y ∧ wetM (runI t x y l i).1 l[i].x l[i].y ≤ 200 := i1.fit.wet _ _ (by omega) (by omega)
        obtain ⟨e1, e2, e3⟩ := giveM_same (s := (runI t x y l i).1) (x := x) (y := y) (p := l[i])
        rw [runI_yes hp h2]
        exact ⟨giveM_flow i1 h8 g8 (by omega) (by omega), e1.trans i2, e2.trans i3, e3.trans i4, by dsimp only; omega, by dsimp only; omega⟩
      · rw [runI_no hp h2]
        exact ⟨i1, i2, i3, i4, i5, by omega⟩
    · have hp : l[i]? = none := List.getElem?_eq_none (by omega)
      have e : runI t x y l (i + 1) = runI t x y l i := by rw [runI, hp]
      rw [e]
      exact ⟨i1, i2, i3, i4, i5, by omega⟩
/-- A round of running, after the first cells. -/
noncomputable def runTo (s : SheetM) : Nat → DryM
  | 0 => (s, 0)
  | n + 1 => if waxP s ((n % s.w.toNat : Nat) : Int) ((n / s.w.toNat : Nat) : Int) then runTo s n
    else runI (runTo s n) ((n % s.w.toNat : Nat) : Int) ((n / s.w.toNat : Nat) : Int) (nbrs s ((n % s.w.toNat : Nat) : Int) ((n / s.w.toNat : Nat) : Int)) (nbrs s ((n % s.w.toNat : Nat) : Int) ((n / s.w.toNat : Nat) : Int)).length
theorem runTo_zero : runTo s 0 = (s, 0) := rfl
theorem runTo_yes (h : waxP s ((n % s.w.toNat : Nat) : Int) ((n / s.w.toNat : Nat) : Int)) : runTo s (n + 1) = runTo s n := by rw [runTo, if_pos h]
theorem runTo_no (h : ¬ waxP s ((n % s.w.toNat : Nat) : Int) ((n / s.w.toNat : Nat) : Int)) : runTo s (n + 1) = runI (runTo s n) ((n % s.w.toNat : Nat) : Int) ((n / s.w.toNat : Nat) : Int) (nbrs s ((n % s.w.toNat : Nat) : Int) ((n / s.w.toNat : Nat) : Int)) (nbrs s ((n % s.w.toNat : Nat) : Int) ((n / s.w.toNat : Nat) : Int)).length := by rw [runTo, if_neg h]
theorem nbrs_in8 (hm : small s) {q : SpotM} (h : q ∈ nbrs s x y) : in8 q.x q.y := in8_has hm (nbrs_mem h).1
theorem runTo_inv (hf : Flow s) (hn : n ≤ s.w.toNat * s.h.toNat) : Flow (runTo s n).1 ∧ (runTo s n).1.w = s.w ∧ (runTo s n).1.h = s.h ∧ (runTo s n).1.wax = s.wax ∧ 0 ≤ (runTo s n).2 ∧ (runTo s n).2 ≤ 4 * n := by
  have hm := hf.fit.small
  induction n with
  | zero => exact ⟨hf, rfl, rfl, rfl, Int.le_refl _, Int.le_refl _⟩
  | succ n ih =>
    obtain ⟨i1, i2, i3, i4, i5, i6⟩ := ih (by omega)
    have hin := cell_in (w := s.w.toNat) (h := s.h.toNat) (n := n) (by omega)
    by_cases hw : waxP s ((n % s.w.toNat : Nat) : Int) ((n / s.w.toNat : Nat) : Int)
    · rw [runTo_yes hw]
      exact ⟨i1, i2, i3, i4, i5, by omega⟩
    · rw [runTo_no hw]
      have hl := nbrs_len (s := s) (x := ((n % s.w.toNat : Nat) : Int)) (y := ((n / s.w.toNat : Nat) : Int))
      obtain ⟨j1, j2, j3, j4, j5, j6⟩ := runI_inv (i := (nbrs s ((n % s.w.toNat : Nat) : Int) ((n / s.w.toNat : Nat) : Int)).length) (l := nbrs s ((n % s.w.toNat : Nat) : Int) ((n / s.w.toNat : Nat) : Int)) i1 (in8_of (a := n % s.w.toNat) (b := n / s.w.toNat) (by omega) (by omega)) (fun q hq => nbrs_in8 hm hq) i5
      exact ⟨j1, j2.trans i2, j3.trans i3, j4.trans i4, by omega, by omega⟩
noncomputable def runM (s : SheetM) : DryM := runTo s (s.w.toNat * s.h.toNat)
theorem runM_flow (hf : Flow s) : Flow (runM s).1 ∧ 0 ≤ (runM s).2 ∧ (runM s).2 ≤ 256 := by
  have h8 : s.w.toNat * s.h.toNat ≤ 8 * 8 := Nat.mul_le_mul (by have := hf.fit.small; omega) (by have := hf.fit.small; omega)
  obtain ⟨h1, _, _, _, h5, h6⟩ := runTo_inv hf (Nat.le_refl _)
  exact ⟨h1, h5, by unfold runM; omega⟩
noncomputable def runR (s : SheetM) : Nat → DryM
  | 0 => (s, 0)
  | k + 1 => ((runM (runR s k).1).1, (runR s k).2 + (runM (runR s k).1).2)
theorem runR_zero : runR s 0 = (s, 0) := rfl
theorem runR_succ {k : Nat} : runR s (k + 1) = ((runM (runR s k).1).1, (runR s k).2 + (runM (runR s k).1).2) := rfl
theorem runR_flow {k : Nat} (hf : Flow s) : Flow (runR s k).1 ∧ 0 ≤ (runR s k).2 ∧ (runR s k).2 ≤ 256 * k := by
  induction k with
  | zero => exact ⟨hf, Int.le_refl 0, Int.le_refl 0⟩
  | succ k ih =>
    obtain ⟨h1, h2, h3⟩ := ih
    obtain ⟨g1, g2, g3⟩ := runM_flow h1
    rw [runR_succ]
    exact ⟨g1, by dsimp only; omega, by dsimp only; omega⟩
end
end Ink
