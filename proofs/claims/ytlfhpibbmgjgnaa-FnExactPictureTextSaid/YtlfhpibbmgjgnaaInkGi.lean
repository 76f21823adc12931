/- Contracts of functions of the program, by the texts that it imports. No conditions. -/
import Derived.Test.YtlfhpibbmgjgnaaInkGh
import Derived.Test.YtlfhpibbmgjgnaaInkGg
import Derived.ChangeArms
import Derived.OpenShut
set_option linter.unusedVariables false
set_option linter.unusedSimpArgs false
/- What the law file's marks mean: spots that are marked; the cells of a sheet as spots. No conditions. -/
namespace Ink
open Go
def mkSp (i : Nat) : SpotM := ⟨IntKind.i8.wrap (1 + 2 * (i : Int)), IntKind.i8.wrap (1 + 2 * (i : Int) + 1)⟩
def mkSs (n : Nat) : List SpotM := (List.range n).map mkSp
theorem mkSs_len {n : Nat} : (mkSs n).length = n := by simp [mkSs]
theorem mkSs_get {n i : Nat} {Z : List SpotM} (h : i < n) : ((mkSs n ++ Z).map spotV)[i]? = some (spotV (mkSp i)) := by
  rw [List.getElem?_map, List.getElem?_append_left (by rw [mkSs_len]; exact h)]
  unfold mkSs
  rw [List.getElem?_map, List.getElem?_range h]
  rfl
theorem mkTo_spots {L Z : List SpotM} : mkTo (fun i => spotV (mkSp i)) ((L ++ Z).map spotV) L.length = (mkSs L.length ++ Z).map spotV := by
  unfold mkTo mkSs
  rw [List.map_append, List.map_append, List.map_map]
  congr 1
  rw [List.drop_append_of_le_length (by simp), List.drop_eq_nil_of_le (by simp), List.nil_append]
def cellsL (w h : Nat) : List SpotM := (List.range (w * h)).map fun n => ⟨((n % w : Nat) : Int), ((n / w : Nat) : Int)⟩
theorem cellsL_len {w h : Nat} : (cellsL w h).length = w * h := by simp [cellsL]
theorem cellsL_get {w h n : Nat} (hn : n < w * h) : (cellsL w h)[n]? = some ⟨((n % w : Nat) : Int), ((n / w : Nat) : Int)⟩ := by
  unfold cellsL
  rw [List.getElem?_map, List.getElem?_range hn]
  rfl
theorem cellsL_D {w h : Nat} : cellsD w h = (cellsL w h).map spotV := by
  apply List.ext_getElem?
  intro n
  by_cases hn : n < w * h
  · rw [cells_get hn, List.getElem?_map, cellsL_get hn]; rfl
  · rw [List.getElem?_eq_none (by rw [cellsD_length]; omega), List.getElem?_eq_none (by rw [List.length_map, cellsL_len]; omega)]
theorem cellsL_mem {w h : Nat} {p : SpotM} (hp : p ∈ cellsL w h) : ∃ n, n < w * h ∧ p = ⟨((n % w : Nat) : Int), ((n / w : Nat) : Int)⟩ := by
  unfold cellsL at hp
  obtain ⟨n, hn, rfl⟩ := List.mem_map.1 hp
  exact ⟨n, List.mem_range.1 hn, rfl⟩
theorem cellsL_in8 {s : SheetM} (hm : small s) {p : SpotM} (hp : p ∈ cellsL s.w.toNat s.h.toNat) : in8 p.x p.y := by
  obtain ⟨n, hn, rfl⟩ := cellsL_mem hp
  have := cell_in hn
  exact in8_of (a := n % s.w.toNat) (b := n / s.w.toNat) (by omega) (by omega)
/-- The first of those cells that are kept. -/
def keptTo (keep : SpotM → Bool) (l : List SpotM) (n : Nat) : List SpotM := (l.take n).filter keep
section
variable {keep : SpotM → Bool} {l : List SpotM} {n : Nat} {p : SpotM}
theorem keptTo_zero : keptTo keep l 0 = [] := by simp [keptTo]
theorem keptTo_yes (h : l[n]? = some p) (hk : keep p = true) : keptTo keep l (n + 1) = keptTo keep l n ++ [p] := by
  unfold keptTo
  obtain ⟨h1, h2⟩ := List.getElem?_eq_some_iff.1 h
  rw [List.take_succ_eq_append_getElem h1, h2, List.filter_append]
  simp [hk]
theorem keptTo_no (h : l[n]? = some p) (hk : keep p = false) : keptTo keep l (n + 1) = keptTo keep l n := by
  unfold keptTo
  obtain ⟨h1, h2⟩ := List.getElem?_eq_some_iff.1 h
  rw [List.take_succ_eq_append_getElem h1, h2, List.filter_append]
  simp [hk]
theorem keptTo_all : keptTo keep l l.length = l.filter keep := by simp [keptTo]
theorem keptTo_len : (keptTo keep l n).length ≤ n := by
  unfold keptTo
  exact Nat.le_trans (List.length_filter_le _ _) (by simp; omega)
end
end Ink
/- Contracts at any heap whose three blocks may hold pointers. No conditions. -/
namespace Ink
open Go
theorem ACall.at3r {P : Program} {f : FuncId} {args : List AV} {v : AV} {B C D : Blk} (h : ACall P [] f args [B, C, D] v [B, C, D]) (hl : B.lv = true ∧ C.lv = true ∧ D.lv = true) (hsB : inScopeB 3 B ∧ inScopeB 3 C ∧ inScopeB 3 D) {H : Heap} {b c d : Nat}
    (hb : H[b]? = some (renB (kap [b, c, d] 3 H.length) B)) (hc : H[c]? = some (renB (kap [b, c, d] 3 H.length) C)) (hd : H[d]? = some (renB (kap [b, c, d] 3 H.length) D)) (hnd : [b, c, d].Nodup)
    {args' : List AV} (hs : inScopes 3 args) (ha : rens (kap [b, c, d] 3 H.length) args = args') (hv : plain v = true) :
    ACall P [] f args' H v H := by
  subst ha
  have h2 := plain_ren (σ := kap [b, c, d] 3 H.length) (m := 0) hv
  have := ACall.frame (Hm := [B, C, D]) (Hm' := [B, C, D]) (N := []) h rfl (H := H) [b, c, d] rfl hnd (fun i E hi => by
    match i with
    | 0 => simp at hi; subst hi; simpa using hb
    | 1 => simp at hi; subst hi; simpa using hc
    | 2 => simp at hi; subst hi; simpa using hd
    | i + 3 => simp at hi) hs (fun E hE => by
      simp at hE
      rcases hE with rfl | rfl | rfl
      · exact hsB.1
      · exact hsB.2.1
      · exact hsB.2.2) (fun i hi => by simp at hi) (fun E hE => by
      simp at hE
      rcases hE with rfl | rfl | rfl
      · exact hl.1
      · exact hl.2.1
      · exact hl.2.2) rfl
  simp only [setAll, List.length_cons, List.length_nil, Nat.zero_add, List.map_nil, List.append_nil] at this
  have e0 : kap [b, c, d] (1 + 1 + 1) H.length 0 = b := by simp [kap]
  have e1 : kap [b, c, d] (1 + 1 + 1) H.length 1 = c := by simp [kap]
  have e2 : kap [b, c, d] (1 + 1 + 1) H.length (1 + 1) = d := by simp [kap]
  rw [e0, e1, e2, h2.1, set_same hb, set_same hc, set_same hd] at this
  exact this
/-- A reader of two blocks that makes one of its own. -/
theorem ACall.new2 {P : Program} {f : FuncId} {args : List AV} {v : AV} {B C : Blk} {N : Heap} (h : ACall P [] f args [B, C] v ([B, C] ++ N)) (hB : noRef B = true) (hC : noRef C = true) {H : Heap} {b c : Nat} (hb : H[b]? = some B) (hc : H[c]? = some C) (hne : b ≠ c)
    {args' : List AV} {v' : AV} {N' : Heap} (hs : inScopes 2 args) (ha : rens (kap [b, c] 2 H.length) args = args') (hv : ren (kap [b, c] 2 H.length) v = v') (hN : N.map (renB (kap [b, c] 2 H.length)) = N') :
    ACall P [] f args' H v' (H ++ N') := by
  subst ha; subst hv; subst hN
  have := ACall.frame (Hm := [B, C]) (Hm' := [B, C]) (N := N) h rfl (H := H) [b, c] rfl (by simp [hne]) (fun i D hi => by
    match i with
    | 0 => simp at hi; subst hi; simp [renB_of hB, hb]
    | 1 => simp at hi; subst hi; simp [renB_of hC, hc]
    | i + 2 => simp at hi) hs (fun D hD => by
      simp at hD
      rcases hD with rfl | rfl
      · exact sc_of hB _
      · exact sc_of hC _) (fun i hi => by simp at hi) (fun D hD => by
      simp at hD
      rcases hD with rfl | rfl
      · exact lv_of hB
      · exact lv_of hC) rfl
  simp only [setAll, renB_of hB, renB_of hC, List.length_cons, List.length_nil, Nat.zero_add, List.map_nil] at this
  have e0 : kap [b, c] (1 + 1) H.length 0 = b := by simp [kap]
  have e1 : kap [b, c] (1 + 1) H.length 1 = c := by simp [kap]
  rw [e0, e1, set_same hb, set_same hc] at this
  exact this
end Ink
/- What the law file's marks mean: baths that are marked. No conditions. -/
namespace Ink
open Go
def ms (f : Nat → Int) (i j : Nat) : Nat → Int := fun q => if q < j then 1 + 3 * (i : Int) + (q : Int) else f q
def mR (L : List (Nat → Int)) (i : Nat) : List (Nat → Int) := L.mapIdx fun k f => if k < i then ms f k 3 else f
def rowV (f : Nat → Int) : DV := a1 .i64 f
section
variable {f : Nat → Int} {L : List (Nat → Int)} {i j q : Nat}
theorem ms_zero : ms f i 0 = f := by funext q; simp [ms]
theorem ms_succ : ms f i (j + 1) = u1 (ms f i j) j (1 + 3 * (i : Int) + (j : Int)) := by
  funext q
  rw [u1_at]
  unfold ms
  by_cases h : q = j
  · subst h; rw [if_pos (by omega), if_pos rfl]
  · rw [if_neg h]
    by_cases h2 : q < j
    · rw [if_pos h2, if_pos (by omega)]
    · rw [if_neg h2, if_neg (by omega)]
theorem ms_at (h : q < j) : ms f i j q = 1 + 3 * (i : Int) + (q : Int) := by unfold ms; rw [if_pos h]
theorem mR_zero : mR L 0 = L := by
  apply List.ext_getElem?
  intro q
  unfold mR
  rw [List.getElem?_mapIdx]
  cases L[q]? <;> simp
theorem mR_len : (mR L i).length = L.length := by simp [mR]
theorem mR_get (h : L[i]? = some f) : (mR L i)[i]? = some f := by
  unfold mR; rw [List.getElem?_mapIdx, h]; simp
theorem mR_in (h : L[q]? = some f) (hq : q < i) : (mR L i)[q]? = some (ms f q 3) := by
  unfold mR; rw [List.getElem?_mapIdx, h]; simp [hq]
theorem mR_set0 (h : L[i]? = some f) : (mR L i).set i (ms f i 0) = mR L i := by
  rw [ms_zero]
  obtain ⟨h1, h2⟩ := List.getElem?_eq_some_iff.1 (mR_get h)
  rw [← h2, List.set_getElem_self]
theorem mR_succ (h : L[i]? = some f) : (mR L i).set i (ms f i 3) = mR L (i + 1) := by
  have hl : i < L.length := (List.getElem?_eq_some_iff.1 h).1
  apply List.ext_getElem?
  intro q
  by_cases hq : q = i
  · subst hq
    rw [List.getElem?_set_self (by rw [mR_len]; exact hl), mR_in h (by omega)]
  · rw [List.getElem?_set_ne (fun e => hq e.symm)]
    unfold mR
    rw [List.getElem?_mapIdx, List.getElem?_mapIdx]
    congr 1
    funext g
    by_cases h2 : q < i
    · rw [if_pos h2, if_pos (by omega)]
    · rw [if_neg h2, if_neg (by omega)]
theorem mRs_get (h : L[i]? = some f) : ((mR L i).set i (ms f i j))[i]? = some (ms f i j) := by
  have hl : i < L.length := (List.getElem?_eq_some_iff.1 h).1
  exact List.getElem?_set_self (by rw [mR_len]; exact hl)
theorem mRs_set {g g' : Nat → Int} : ((mR L i).set i g).set i g' = (mR L i).set i g' := List.set_set ..
end
def bathL (s : SheetM) (share : Int) (n : Nat) : List (Nat → Int) := (List.range n).map fun k => upTo (bathO s share k) 0 3
theorem bathsD_L {s : SheetM} {share : Int} {n : Nat} : bathsD s share n = (bathL s share n).map rowV := by
  unfold bathsD bathL
  rw [List.map_map]
  rfl
theorem bathL_len {s : SheetM} {share : Int} {n : Nat} : (bathL s share n).length = n := by simp [bathL]
end Ink
/- What the program means: a spot looked for in a list; giving a unit. No conditions. -/
namespace Ink
open Go
open Classical in
/-- Where a spot first stands in a list, counted from 'i' on; '-1' if nowhere. -/
noncomputable def fndA (p : SpotM) : List SpotM → Nat → Int
  | [], _ => -1
  | q :: l, i => if p = q then (i : Int) else fndA p l (i + 1)
theorem fndA_mem {p : SpotM} : ∀ {l : List SpotM} {i : Nat}, (0 ≤ fndA p l i ↔ p ∈ l) ∧ -1 ≤ fndA p l i ∧ fndA p l i ≤ (i : Int) + l.length
  | [], i => by simp [fndA]
  | q :: l, i => by
    obtain ⟨h1, h2, h3⟩ := fndA_mem (p := p) (l := l) (i := i + 1)
    unfold fndA
    by_cases h : p = q
    · rw [if_pos h]; refine ⟨⟨fun _ => by simp [h], fun _ => by omega⟩, by omega, by simp; omega⟩
    · rw [if_neg h, h1]; refine ⟨⟨fun hm => List.mem_cons_of_mem _ hm, fun hm => (List.mem_cons.1 hm).resolve_left h⟩, h2, by simp at h3 ⊢; omega⟩
theorem fndA_hit {p : SpotM} {l : List SpotM} {i : Nat} (hi : i < l.length) (h : p = l[i]) : fndA p (l.drop i) i = i := by
  rw [List.drop_eq_getElem_cons hi, fndA, if_pos h]
theorem fndA_miss {p : SpotM} {l : List SpotM} {i : Nat} (hi : i < l.length) (h : ¬ p = l[i]) : fndA p (l.drop i) i = fndA p (l.drop (i + 1)) (i + 1) := by
  rw [List.drop_eq_getElem_cons hi, fndA, if_neg h]
theorem fndA_end {p : SpotM} {l : List SpotM} : fndA p (l.drop l.length) l.length = -1 := by simp [fndA]
theorem zep {p q : SpotM} (h : p = q) : (p.x == q.x && p.y == q.y) = true := by subst h; simp
theorem zeq {p q : SpotM} (h : ¬ p = q) : (p.x == q.x && p.y == q.y) = false := by
  cases hb : (p.x == q.x && p.y == q.y) with
  | false => rfl
  | true =>
    simp only [Bool.and_eq_true, beq_iff_eq] at hb
    cases p; cases q
    simp only at hb
    exact absurd (by rw [hb.1, hb.2]) h
theorem spot_eqb' {p q : SpotM} (h : p = q) : (q.x == p.x && q.y == p.y) = true := zep h.symm
theorem spot_neb' {p q : SpotM} (h : ¬ p = q) : (q.x == p.x && q.y == p.y) = false := zeq (fun e => h e.symm)
open Classical in
noncomputable def gvC (s : SheetM) (x y : Int) (p : SpotM) : Int :=
  if ¬ validS s then 1 else if ¬ (hasP s x y ∧ hasP s p.x p.y) then 2 else if waxP s x y ∨ p ∉ nbrs s x y ∨ wetM s x y = 0 then 4 else if wetM s p.x p.y = 200 then 3 else 0
noncomputable def gvV (s : SheetM) (x y : Int) (p : SpotM) : AV := .tup [.agg shSheet (sheetD (if gvC s x y p = 0 then giveM s x y p else zeroSheet)), .int .i64 (gvC s x y p)]
section
variable {s : SheetM} {x y : Int} {p : SpotM}
theorem gvC_1 (h : ¬ validS s) : gvC s x y p = 1 := by unfold gvC; rw [if_pos h]
theorem gvC_2 (h : validS s) (h2 : ¬ (hasP s x y ∧ hasP s p.x p.y)) : gvC s x y p = 2 := by unfold gvC; rw [if_neg (fun g => g h), if_pos h2]
theorem gvC_4 (h : validS s) (h2 : hasP s x y ∧ hasP s p.x p.y) (h3 : waxP s x y ∨ p ∉ nbrs s x y ∨ wetM s x y = 0) : gvC s x y p = 4 := by unfold gvC; rw [if_neg (fun g => g h), if_neg (fun g => g h2), if_pos h3]
theorem gvC_3 (h : validS s) (h2 : hasP s x y ∧ hasP s p.x p.y) (h3 : ¬ (waxP s x y ∨ p ∉ nbrs s x y ∨ wetM s x y = 0)) (h4 : wetM s p.x p.y = 200) : gvC s x y p = 3 := by unfold gvC; rw [if_neg (fun g => g h), if_neg (fun g => g h2), if_neg h3, if_pos h4]
theorem gvC_0 (h : validS s) (h2 : hasP s x y ∧ hasP s p.x p.y) (h3 : ¬ (waxP s x y ∨ p ∉ nbrs s x y ∨ wetM s x y = 0)) (h4 : ¬ wetM s p.x p.y = 200) : gvC s x y p = 0 := by unfold gvC; rw [if_neg (fun g => g h), if_neg (fun g => g h2), if_neg h3, if_neg h4]
theorem gvV_ok (h : gvC s x y p = 0) : gvV s x y p = .tup [.agg shSheet (sheetD (giveM s x y p)), .int .i64 0] := by unfold gvV; rw [if_pos h, h]
theorem gvV_ne {c : Int} (h : gvC s x y p = c) (hc : c ≠ 0) : gvV s x y p = .tup [.agg shSheet (sheetD zeroSheet), .int .i64 c] := by unfold gvV; rw [h, if_neg hc]
end
end Ink
/- What the program means: the cell that is wet last. No conditions. -/
namespace Ink
open Go
def bst (g : Nat → Nat → Int) (w : Nat) : Nat → Nat
  | 0 => 0
  | n + 1 => if g (bst g w n / w) (bst g w n % w) < g (n / w) (n % w) then n else bst g w n
section
variable {g : Nat → Nat → Int} {w n m : Nat}
theorem bst_one : bst g w 1 = 0 := by simp [bst]
theorem bst_yes (h : g (bst g w n / w) (bst g w n % w) < g (n / w) (n % w)) : bst g w (n + 1) = n := by rw [bst, if_pos h]
theorem bst_no (h : ¬ g (bst g w n / w) (bst g w n % w) < g (n / w) (n % w)) : bst g w (n + 1) = bst g w n := by rw [bst, if_neg h]
theorem bst_lt (h : 0 < n) : bst g w n < n := by
  induction n with
  | zero => omega
  | succ n ih =>
    by_cases hn : 0 < n
    · rw [bst]; have := ih hn; split <;> omega
    · obtain rfl : n = 0 := by omega
      rw [bst_one]; omega
theorem bst_most : g (bst g w (n + 1) / w) (bst g w (n + 1) % w) ≤ (mostTo g w (n + 1)).2 ∧ (0 < (mostTo g w (n + 1)).2 → bst g w (n + 1) = (mostTo g w (n + 1)).1 ∧ g (bst g w (n + 1) / w) (bst g w (n + 1) % w) = (mostTo g w (n + 1)).2) := by
  induction n with
  | zero =>
    rw [bst_one]
    by_cases h : (mostTo g w 0).2 < g (0 / w) (0 % w)
    · rw [mostTo_yes h]; exact ⟨Int.le_refl _, fun _ => ⟨rfl, rfl⟩⟩
    · rw [mostTo_no h]
      rw [mostTo_zero] at h ⊢
      exact ⟨by simpa using h, fun h => by simp at h⟩
  | succ n ih =>
    have hnn := mostTo_nn (g := g) (w := w) (n := n + 1)
    by_cases h : (mostTo g w (n + 1)).2 < g ((n + 1) / w) ((n + 1) % w)
    · rw [mostTo_yes h, bst_yes (by omega)]
      exact ⟨Int.le_refl _, fun _ => ⟨rfl, rfl⟩⟩
    · rw [mostTo_no h]
      by_cases h2 : g (bst g w (n + 1) / w) (bst g w (n + 1) % w) < g ((n + 1) / w) ((n + 1) % w)
      · rw [bst_yes h2]
        refine ⟨by omega, fun h3 => ?_⟩
        have := ih.2 h3
        omega
      · rw [bst_no h2]; exact ih
theorem most_zero (h : ∀ k < n, g (k / w) (k % w) ≤ 0) : (mostTo g w n).2 = 0 := by
  induction n with
  | zero => rfl
  | succ n ih =>
    have h1 := ih fun k hk => h k (by omega)
    rw [mostTo_no (by rw [h1]; have := h n (by omega); omega)]
    exact h1
theorem most_ge (h : m < n) : g (m / w) (m % w) ≤ (mostTo g w n).2 := by
  induction n with
  | zero => omega
  | succ n ih =>
    rw [mostTo]
    by_cases hm : m = n
    · subst hm; split
      · exact Int.le_refl _
      · omega
    · have := ih (by omega)
      split
      · dsimp only; omega
      · exact this
end
section
variable {s o t : SheetM} {W n m : Nat} {r : Int} {g : Nat → Nat → Int}
theorem ringC_in (h : m < n) (h1 : 0 < wetM o ((m % W : Nat) : Int) ((m / W : Nat) : Int)) (h2 : wetM t ((m % W : Nat) : Int) ((m / W : Nat) : Int) = 0) : ringC o t W r g n (m / W) (m % W) = r := by
  induction n with
  | zero => omega
  | succ n ih =>
    by_cases hm : m = n
    · subst hm; rw [ringC_yes h1 h2, u2_at, if_pos ⟨rfl, rfl⟩]
    · have h3 := ih (by omega)
      rw [ringC]
      split
      · rw [u2_at]; split
        · rfl
        · exact h3
      · exact h3
theorem ring0_le {y x : Nat} : ring0 s y x ≤ 0 := by unfold ring0 upG; split <;> omega
theorem ringC_bd {y x : Nat} {b : Int} (hg : -1 ≤ g y x ∧ g y x ≤ b) (hr : -1 ≤ r) (hb : r ≤ b) : -1 ≤ ringC o t W r g n y x ∧ ringC o t W r g n y x ≤ b := by
  induction n with
  | zero => exact hg
  | succ n ih =>
    rw [ringC]
    split
    · rw [u2_at]; split
      · exact ⟨hr, hb⟩
      · exact ih
    · exact ih
theorem ringR_bd {k y x : Nat} : -1 ≤ ringR s k y x ∧ ringR s k y x ≤ k := by
  induction k with
  | zero =>
    rw [ringR_zero]
    refine ⟨?_, ring0_le⟩
    unfold ring0 upG; split <;> omega
  | succ k ih => rw [ringR_succ]; exact ringC_bd (by omega) (by omega) (by omega)
theorem ringsM_bd (hf : Fit s) {y x : Nat} : -1 ≤ ringsM s y x ∧ ringsM s y x ≤ 200 := by
  have h1 := dryK_le hf
  have h2 := ringR_bd (s := s) (k := dryK s) (y := y) (x := x)
  unfold ringsM; omega
theorem ring_none (h : dryK s = 0) : (mostA s (ringsM s)).2 = 0 := most_zero fun k _ => by
  unfold ringsM; rw [h, ringR_zero]; exact ring0_le
theorem ring_some (hf : Fit s) (h : 0 < dryK s) : 0 < (mostA s (ringsM s)).2 := by
  obtain ⟨k, hk⟩ : ∃ k, dryK s = k + 1 := ⟨dryK s - 1, by omega⟩
  obtain ⟨f1, _, _⟩ := dryR_fit (k := k) hf
  obtain ⟨f2, _, _⟩ := dryR_fit (k := k + 1) hf
  obtain ⟨a1, a2, _⟩ := dryR_wh (s := s) (k := k)
  obtain ⟨b1, b2, _⟩ := dryR_wh (s := s) (k := k + 1)
  have g1 := gone_iff f1 (Nat.le_refl _)
  have g2 := gone_iff f2 (Nat.le_refl _)
  have h1 := dryK_before hf (k := k) (by omega)
  have h2 := dryK_at hf
  rw [hk] at h2
  have hall := g2.2.2.2.1 h2
  have hex : ∃ m, m < (dryR s k).1.w.toNat * (dryR s k).1.h.toNat ∧ ¬ wetM (dryR s k).1 ((m % (dryR s k).1.w.toNat : Nat) : Int) ((m / (dryR s k).1.w.toNat : Nat) : Int) = 0 := by
    apply Classical.byContradiction
    intro hno
    exact h1 (g1.2.2.2.2 fun m hm => Classical.byContradiction fun h => hno ⟨m, hm, h⟩)
  obtain ⟨m, hm, hw⟩ := hex
  have hc := cell_wet f1 hm
  have hz := hall m (by rw [b1, b2]; rw [a1, a2] at hm; exact hm)
  rw [a1] at hw hc
  rw [b1] at hz
  rw [a1, a2] at hm
  have hr : ringsM s (m / s.w.toNat) (m % s.w.toNat) = (k : Int) + 1 := by
    unfold ringsM
    rw [hk, ringR_succ]
    exact ringC_in hm (by omega) hz
  have := most_ge (g := ringsM s) (w := s.w.toNat) hm
  rw [hr] at this
  show 0 < (mostTo _ _ _).2
  omega
end
end Ink
/- What the program means: ink that runs until it stands. No conditions. -/
namespace Ink
open Go
section
variable {s : SheetM} {t : DryM} {x y : Int} {l : List SpotM} {i n k : Nat}
theorem runI_mono : t.2 ≤ (runI t x y l i).2 ∧ ((runI t x y l i).2 = t.2 → (runI t x y l i).1 = t.1) := by
  induction i with
  | zero => exact ⟨Int.le_refl _, fun _ => rfl⟩
  | succ i ih =>
    obtain ⟨h1, h2⟩ := ih
    rw [runI]
    split
    · split
      · exact ⟨by dsimp only; omega, fun h => by dsimp only at h; omega⟩
      · exact ⟨h1, h2⟩
    · exact ⟨h1, h2⟩
theorem runTo_mono : 0 ≤ (runTo s n).2 ∧ ((runTo s n).2 = 0 → (runTo s n).1 = s) := by
  induction n with
  | zero => exact ⟨Int.le_refl 0, fun _ => rfl⟩
  | succ n ih =>
    obtain ⟨h1, h2⟩ := ih
    rw [runTo]
    split
    · exact ⟨h1, h2⟩
    · obtain ⟨g1, g2⟩ := runI_mono (t := runTo s n) (x := ((n % s.w.toNat : Nat) : Int)) (y := ((n / s.w.toNat : Nat) : Int)) (l := nbrs s ((n % s.w.toNat : Nat) : Int) ((n / s.w.toNat : Nat) : Int)) (i := (nbrs s ((n % s.w.toNat : Nat) : Int) ((n / s.w.toNat : Nat) : Int)).length)
      refine ⟨by omega, fun h => ?_⟩
      rw [g2 (by omega)]
      exact h2 (by omega)
theorem runM_still (h : (runM s).2 = 0) : (runM s).1 = s := runTo_mono.2 h
noncomputable def unK (s : SheetM) : Nat := (List.range 501).findIdx fun k => decide ((runM (runR s k).1).2 = 0)
theorem unK_le : unK s ≤ 501 := by
  have := List.findIdx_le_length (p := fun k => decide ((runM (runR s k).1).2 = 0)) (xs := List.range 501)
  simpa [unK] using this
theorem unK_hit (hk : k ≤ unK s) (h5 : k ≤ 500) (h : (runM (runR s k).1).2 = 0) : unK s = k := by
  apply Classical.byContradiction
  intro hne
  have hlt : k < unK s := by omega
  have := List.not_of_lt_findIdx (p := fun k => decide ((runM (runR s k).1).2 = 0)) (xs := List.range 501) hlt
  rw [List.getElem_range] at this
  simp [h] at this
theorem unK_miss (hk : k ≤ unK s) (h5 : k ≤ 500) (h : ¬ (runM (runR s k).1).2 = 0) : k < unK s := by
  apply Classical.byContradiction
  intro hne
  have he : unK s = k := by omega
  have hl : (List.range 501).findIdx (fun k => decide ((runM (runR s k).1).2 = 0)) < (List.range 501).length := by
    show unK s < _; simp; omega
  have := List.findIdx_getElem (w := hl)
  rw [List.getElem_range] at this
  have h2 : (runM (runR s (unK s)).1).2 = 0 := of_decide_eq_true this
  rw [he] at h2
  exact h h2
noncomputable def unN (s : SheetM) : Int := if unK s ≤ 500 then (unK s : Int) else 0
noncomputable def unC (s : SheetM) : Int := if unK s ≤ 500 then 0 else 7
noncomputable def unR (s : SheetM) : AV := .tup [.agg shSheet (sheetD (if unK s ≤ 500 then (runR s (unK s)).1 else zeroSheet)), .int .i64 (unN s), .int .i64 (unC s)]
open Classical in
noncomputable def unV (s : SheetM) : AV := .tup [.agg shSheet (sheetD (if validS s ∧ unK s ≤ 500 then (runR s (unK s)).1 else zeroSheet)), .int .i64 (if validS s then unN s else 0), .int .i64 (if validS s then unC s else 1)]
theorem unV_bad (h : ¬ validS s) : unV s = .tup [.agg shSheet (sheetD zeroSheet), .int .i64 0, .int .i64 1] := by unfold unV; rw [if_neg (fun g => h g.1), if_neg h, if_neg h]
theorem unV_ok (h : validS s) (h2 : unK s ≤ 500) : unV s = .tup [.agg shSheet (sheetD (runR s (unK s)).1), .int .i64 (unK s : Nat), .int .i64 0] := by unfold unV unN unC; rw [if_pos ⟨h, h2⟩, if_pos h, if_pos h, if_pos h2, if_pos h2]
theorem unV_no (h : validS s) (h2 : ¬ unK s ≤ 500) : unV s = .tup [.agg shSheet (sheetD zeroSheet), .int .i64 0, .int .i64 7] := by unfold unV unN unC; rw [if_neg (fun g => h2 g.2), if_pos h, if_pos h, if_neg h2, if_neg h2]
theorem unN_ok (h : unK s = k) (h5 : k ≤ 500) : unN s = (k : Int) ∧ unC s = 0 := by unfold unN unC; rw [h, if_pos h5, if_pos h5]; exact ⟨rfl, rfl⟩
theorem unN_no (h : 500 < unK s) : unN s = 0 ∧ unC s = 7 ∧ unK s = 501 := by have := unK_le (s := s); unfold unN unC; rw [if_neg (by omega), if_neg (by omega)]; exact ⟨rfl, rfl, by omega⟩
theorem runR_still (h : (runM (runR s k).1).2 = 0) : (runR s (k + 1)).1 = (runR s k).1 := by rw [runR_succ]; exact runM_still h
end
end Ink
/- Slices that come from outside: what lies in memory where they point. No conditions. -/
namespace Ink
open Go Go.ChangeShapes Go.WideShapes Go.RowKit
/-- Numbers that their kinds hold. -/
def Wf : Sh → DV → Prop
  | .int k, .int _ n => (Lit.int k n).wf = true
  | .arr n e, .arr f => ∀ i, i < n → Wf e (f i)
  | .cons a b, .cons x y => Wf a x ∧ Wf b y
  | _, _ => True
theorem cellsOf_of {P : Program} {τ : Sh} {t : TypeId} (h : TyOk P τ t) : P.cellsOf t = τ.size := by
  obtain ⟨i, h1, h2, _⟩ := h.info
  unfold Program.cellsOf
  rw [h1]
  exact h2
theorem fld_ge {P : Program} : ∀ {b : Sh} {r : List Field} {o i : Nat} {f : Field}, FldOk P b r o → r[i]? = some f → o ≤ f.offset
  | .cons a b, g :: r, o, 0, f, h, hf => by
    simp only [FldOk] at h
    simp at hf
    subst hf
    omega
  | .cons a b, g :: r, o, i + 1, f, h, hf => by
    simp only [FldOk] at h
    have := fld_ge h.2.2.2 (by simpa using hf)
    omega
  | .unit, [], _, _, _, _, hf => by simp at hf
  | .int _, _, _, _, _, h, _ => by simp [FldOk] at h
  | .bool, _, _, _, _, h, _ => by simp [FldOk] at h
  | .str, _, _, _, _, h, _ => by simp [FldOk] at h
  | .arr _ _, _, _, _, _, h, _ => by simp [FldOk] at h
  | .unit, _ :: _, _, _, _, h, _ => by simp [FldOk] at h
  | .cons _ _, [], _, _, _, h, _ => by simp [FldOk] at h
theorem flatMap_blocks {α : Type} {g : Nat → List α} {m : Nat} : ∀ (n : Nat) (cs : List α), cs.length = n * m → (∀ i, i < n → (cs.drop (i * m)).take m = g i) → cs = (List.range n).flatMap g
  | 0, cs, hl, _ => by
    have : cs = [] := List.eq_nil_of_length_eq_zero (by simpa using hl)
    simp [this]
  | n + 1, cs, hl, h => by
    have hle : n * m ≤ cs.length := by rw [hl, Nat.succ_mul]; omega
    have h1 := flatMap_blocks (m := m) (g := g) n (cs.take (n * m)) (by rw [List.length_take]; omega) fun i hi => by
      rw [← h i (by omega), List.drop_take, List.take_take]
      congr 1
      have : (i + 1) * m ≤ n * m := Nat.mul_le_mul_right _ (by omega)
      rw [Nat.succ_mul] at this
      omega
    have h2 := h n (by omega)
    rw [List.take_of_length_le (by simp; rw [hl, Nat.succ_mul]; omega)] at h2
    rw [List.range_succ, List.flatMap_append, ← h1]
    simp [← h2]
section
variable {H : Type} {enc : TypeId × Value → H} {P : Program} {w : World} {base : Nat} {sp : Nat → Bool} {hd : Bool}
theorem trod_data {σ : Sh} : (∀ {t : TypeId} {fuel : Nat} {cs : List Value} {x : DataW H × List MemPlace}, TyOk P σ t → DataW.trod enc P w base sp hd fuel t cs = some x → ∃ v, Has σ v ∧ cs = flat σ v ∧ Wf σ v) ∧
    (∀ {r : List Field} {o m : Nat} {cs : List Value}, FldOk P σ r o → cs.length = σ.size → (∀ (i : Nat) (f : Field), r[i]? = some f → ∃ y, DataW.trod enc P w base sp hd m f.type ((cs.drop (f.offset - o)).take (P.cellsOf f.type)) = some y) → ∃ v, Has σ v ∧ cs = flat σ v ∧ Wf σ v) := by
  induction σ with
  | int k =>
    refine ⟨fun ht h => ?_, fun h => by simp [FldOk] at h⟩
    simp only [TyOk] at ht
    obtain ⟨n, rfl, _, hw⟩ := DataW.trod_int ht.1 h
    exact ⟨.int k n, rfl, rfl, hw⟩
  | bool =>
    refine ⟨fun ht h => ?_, fun h => by simp [FldOk] at h⟩
    simp only [TyOk] at ht
    obtain ⟨b, rfl, _⟩ := DataW.trod_bool ht.1 h
    exact ⟨.bool b, trivial, rfl, trivial⟩
  | str =>
    refine ⟨@fun t fuel cs x ht h => ?_, fun h => by simp [FldOk] at h⟩
    simp only [TyOk] at ht
    have : ∃ s, cs = [.string s] := by
      cases fuel with
      | zero => simp [DataW.trod] at h
      | succ n =>
        unfold DataW.trod at h
        rw [ht.1] at h
        split at h <;> simp_all
    obtain ⟨s, rfl⟩ := this
    exact ⟨.str s, trivial, rfl, trivial⟩
  | unit =>
    refine ⟨fun ht h => ?_, @fun r o m cs h hl _ => ?_⟩
    · have hc := cellsOf_of ht
      simp only [TyOk] at ht
      obtain ⟨xs, n, _, _, h1, _⟩ := DataW.trod_struct ht.1 h
      rw [hc] at h1
      exact ⟨.unit, trivial, List.eq_nil_of_length_eq_zero h1, trivial⟩
    · exact ⟨.unit, trivial, List.eq_nil_of_length_eq_zero hl, trivial⟩
  | arr n e ih =>
    refine ⟨@fun t fuel cs x ht h => ?_, fun h => by simp [FldOk] at h⟩
    have hc := cellsOf_of ht
    simp only [TyOk] at ht
    obtain ⟨⟨et, hu, hte⟩, _⟩ := ht
    obtain ⟨xs, m, _, _, h1, h2, h3⟩ := DataW.trod_array hu h
    rw [hc] at h1
    have hce := cellsOf_of hte
    rw [hce] at h3
    have hall : ∀ i, i < n → ∃ v, Has e v ∧ List.take e.size (List.drop (i * e.size) cs) = flat e v ∧ Wf e v := fun i hi => by
      have h4 := h3 i hi
      rw [List.getElem?_eq_getElem (show i < xs.length by omega)] at h4
      exact ih.1 hte h4
    refine ⟨.arr fun i => if hi : i < n then Classical.choose (hall i hi) else .unit, fun i hi => ?_, ?_, fun i hi => ?_⟩
    · simp only [hi, dif_pos]
      exact (Classical.choose_spec (hall i hi)).1
    · simp only [flat]
      refine flatMap_blocks n _ (by simpa [Sh.size] using h1) fun i hi => ?_
      simp only [hi, dif_pos]
      exact (Classical.choose_spec (hall i hi)).2.1
    · simp only [hi, dif_pos]
      exact (Classical.choose_spec (hall i hi)).2.2
  | cons a b iha ihb =>
    have key : ∀ {f : Field} {r : List Field} {o m : Nat} {cs : List Value}, f.offset = o → TyOk P a f.type → FldOk P b r (o + a.size) → cs.length = a.size + b.size →
        (∀ (i : Nat) (g : Field), (f :: r)[i]? = some g → ∃ y, DataW.trod enc P w base sp hd m g.type ((cs.drop (g.offset - o)).take (P.cellsOf g.type)) = some y) → ∃ v, Has (.cons a b) v ∧ cs = flat (.cons a b) v ∧ Wf (.cons a b) v := by
      intro f r o m cs hf hta hfb hl hall
      obtain ⟨y, hy⟩ := hall 0 f (by simp)
      rw [hf, Nat.sub_self, List.drop_zero, cellsOf_of hta] at hy
      obtain ⟨va, h1, h2, h3⟩ := iha.1 hta hy
      obtain ⟨vb, h4, h5, h6⟩ := ihb.2 (cs := cs.drop a.size) (m := m) hfb (by simp; omega) fun i g hg => by
        obtain ⟨y, hy⟩ := hall (i + 1) g (by simpa using hg)
        have hge := fld_ge hfb hg
        refine ⟨y, ?_⟩
        rw [List.drop_drop, show a.size + (g.offset - (o + a.size)) = g.offset - o by omega]
        exact hy
      refine ⟨.cons va vb, ⟨h1, h4⟩, ?_, ⟨h3, h6⟩⟩
      simp only [flat]
      rw [← h2, ← h5, List.take_append_drop]
    refine ⟨fun ht h => ?_, @fun r o m cs h hl hall => ?_⟩
    · have hc := cellsOf_of ht
      simp only [TyOk] at ht
      obtain ⟨⟨fs, f, r, hu, hfs, hf0, _, hta, hfb⟩, _⟩ := ht
      obtain ⟨xs, n, _, _, h1, h2, h3⟩ := DataW.trod_struct hu h
      rw [hc] at h1
      refine key (o := 0) (m := n) hf0 hta (by simpa using hfb) (by simpa [Sh.size] using h1) fun i g hg => ?_
      rw [← hfs, Array.getElem?_toList] at hg
      have h4 := h3 i g hg
      have hi := (Array.getElem?_eq_some_iff.1 hg).1
      rw [List.getElem?_eq_getElem (show i < xs.length by omega)] at h4
      exact ⟨_, by rw [Nat.sub_zero]; exact h4⟩
    · cases r with
      | nil => simp [FldOk] at h
      | cons f r =>
        simp only [FldOk] at h
        exact key h.1 h.2.2.1 h.2.2.2 (by simpa [Sh.size] using hl) hall
theorem liesAt_of {α : Type} {l xs : List α} {o : Nat} (hne : xs ≠ []) (h : ∀ q (hq : q < xs.length), l[o + q]? = some xs[q]) : LiesAt l o xs := by
  have hpos : 0 < xs.length := List.length_pos_iff.2 hne
  have hlast := (List.getElem?_eq_some_iff.1 (h (xs.length - 1) (by omega))).1
  refine ⟨l.take o, l.drop (o + xs.length), ?_, by simp; omega⟩
  apply List.ext_getElem?
  intro q
  rw [List.append_assoc]
  by_cases h1 : q < o
  · rw [List.getElem?_append_left (by simp; omega), List.getElem?_take_of_lt h1]
  · rw [List.getElem?_append_right (by simp; omega)]
    have hlen : (l.take o).length = o := by simp; omega
    rw [hlen]
    by_cases h2 : q - o < xs.length
    · rw [List.getElem?_append_left h2]
      have := h (q - o) h2
      rw [show o + (q - o) = q by omega] at this
      rw [this, List.getElem?_eq_getElem h2]
    · rw [List.getElem?_append_right (by omega), List.getElem?_drop]
      congr 1
      omega
/-- A slice that comes from outside. -/
theorem open_slice {t e : TypeId} {σ : Sh} {fuel : Nat} {cs : List Value} {x : DataW H × List MemPlace} (ht : P.underlying t = some (.slice e)) (hte : TyOk P σ e) (hz : σ.size ≠ 0) (h : DataW.trod enc P w base sp hd fuel t cs = some x) :
    (∃ a cap, cs = [.slice a 0 cap]) ∨ ∃ (blk off cap : Nat) (L : List DV), (L ≠ [] ∧ L.length ≤ maxLen) ∧ cs = [.slice (some ⟨blk, off, none⟩) L.length cap] ∧ (∀ v ∈ L, Has σ v ∧ Wf σ v) ∧ ∃ c T fz, w.heap[blk]? = some (.cells c T fz) ∧ LiesAt c.toList off (L.flatMap (flat σ)) := by
  rcases DataW.trod_slice ht h with ⟨h0, _⟩ | ⟨a, len, cap, elems, rest, n, _, rfl, _, hb, hl, hm, hlen, hel, _, _⟩
  · exact .inl ⟨none, 0, h0⟩
  have hc := cellsOf_of hte
  rw [hc] at hel
  by_cases h0 : len = 0
  · subst h0; exact .inl ⟨some a, cap, rfl⟩
  right
  have each : ∀ i, i < len → ∃ v, Has σ v ∧ Wf σ v ∧ w.cells? base (a.add (i * σ.size)) σ.size = some (flat σ v) := fun i hi => by
    have h1 := hel i hi
    rw [List.getElem?_eq_getElem (show i < elems.length by omega), Option.bind_eq_some_iff] at h1
    obtain ⟨cs', h2, h3⟩ := h1
    obtain ⟨v, h4, h5, h6⟩ := trod_data.1 hte h3
    exact ⟨v, h4, h6, by rw [h2, h5]⟩
  let g : Nat → DV := fun i => if hi : i < len then Classical.choose (each i hi) else .unit
  have hg : ∀ i, i < len → Has σ (g i) ∧ Wf σ (g i) ∧ w.cells? base (a.add (i * σ.size)) σ.size = some (flat σ (g i)) := fun i hi => by
    show Has σ (if hi : i < len then _ else _) ∧ _
    simp only [g, hi, dif_pos]
    exact Classical.choose_spec (each i hi)
  have hadd : ∀ (m n : Nat), (a.add m).add n = a.add (m + n) := fun m n => by
    unfold Addr.add
    by_cases hm : m = 0 <;> by_cases hn : n = 0 <;> simp [hm, hn, Nat.add_assoc]
  have hcell : ∀ i j (hi : i < len) (hj : j < (flat σ (g i)).length), w.cell? (a.add (i * σ.size + j)) = some (flat σ (g i))[j] := fun i j hi hj => by
    have h1 := World.cells?_some (hg i hi).2.2
    have hfl := flat_length (hg i hi).1
    have h2 := h1.2.2 j (by omega)
    rw [hadd] at h2
    rw [h2, List.getElem?_eq_getElem hj]
  have hpos : 0 < len := by omega
  have hf0 := flat_length (hg 0 hpos).1
  have h00 := hcell 0 0 hpos (by omega)
  rw [Nat.zero_mul, Nat.add_zero, show a.add 0 = a by simp [Addr.add]] at h00
  have hspot : a.spot = none ∧ ∃ c T fz, w.heap[a.block]? = some (.cells c T fz) := by
    unfold World.cell? at h00
    cases hq : w.heap[a.block]? with
    | none => rw [hq] at h00; cases h00
    | some ob =>
      rw [hq] at h00
      cases ob <;> first | (cases h00; done) | skip
      dsimp only at h00
      cases hs : a.spot with
      | none => exact ⟨rfl, _, _, _, rfl⟩
      | some _ => rw [hs] at h00; simp at h00
  obtain ⟨hs, c, T, fz, hblk⟩ := hspot
  have ha : a = ⟨a.block, a.off, none⟩ := by cases a; simp only at hs; rw [hs]
  have hLl : ((List.range len).map g).length = len := by simp
  refine ⟨a.block, a.off, cap, (List.range len).map g, ⟨?_, by rw [hLl]; omega⟩, ?_, ?_, c, T, fz, hblk, ?_⟩
  · intro he; have := congrArg List.length he; simp at this; omega
  · rw [hLl, ← ha]
  · intro v hv
    rw [List.mem_map] at hv
    obtain ⟨i, hi, rfl⟩ := hv
    exact ⟨(hg i (List.mem_range.1 hi)).1, (hg i (List.mem_range.1 hi)).2.1⟩
  · have hfl : ∀ i, i < len → (flat σ (g i)).length = σ.size := fun i hi => flat_length (hg i hi).1
    have hlen' : (((List.range len).map g).flatMap (flat σ)).length = len * σ.size := by
      rw [List.flatMap_map]; exact flatMap_range_length _ _ _ hfl
    refine liesAt_of ?_ fun q hq => ?_
    · intro he
      rw [he] at hlen'
      have : 0 < len * σ.size := Nat.mul_pos hpos (by omega)
      simp at hlen'
      omega
    · rw [hlen'] at hq
      have hzp : 0 < σ.size := by omega
      have hi : q / σ.size < len := (Nat.div_lt_iff_lt_mul hzp).2 hq
      have hj : q % σ.size < σ.size := Nat.mod_lt _ hzp
      have hqe : q / σ.size * σ.size + q % σ.size = q := by rw [Nat.mul_comm]; exact Nat.div_add_mod q σ.size
      have h1 := hcell (q / σ.size) (q % σ.size) hi (by rw [hfl _ hi]; exact hj)
      rw [hqe] at h1
      have h2 : w.cell? (a.add q) = c[a.off + q]? := by
        rw [ha, add_addr, cell_of_row w _ _ c T fz hblk]
      have hLi : ((List.range len).map g)[q / σ.size]? = some (g (q / σ.size)) := by simp [hi]
      have h3 := flatMap_at (e := σ) (fun v hv => by
        rw [List.mem_map] at hv
        obtain ⟨i, hi, rfl⟩ := hv
        exact (hg i (List.mem_range.1 hi)).1) hLi
      obtain ⟨pa, pb, h4, h5⟩ := h3
      have h6 : (((List.range len).map g).flatMap (flat σ))[q]? = some ((flat σ (g (q / σ.size)))[q % σ.size]'(by rw [hfl _ hi]; exact hj)) := by
        rw [h4, List.append_assoc, List.getElem?_append_right (by omega), List.getElem?_append_left (by rw [hfl _ hi]; omega)]
        rw [show q - pa.length = q % σ.size by omega]
        exact List.getElem?_eq_getElem _
      rw [Array.getElem?_toList, ← h2, h1, ← h6]
      exact List.getElem?_eq_getElem _
end
end Ink
/- A writer of one block that looks at two others; cells at an edge. No conditions. -/
namespace Ink
open Go
theorem ACall.at3w {P : Program} {f : FuncId} {args : List AV} {v : AV} {A A' B C : Blk} (h : ACall P [0] f args [A, B, C] v [A', B, C]) (hA : noRef A = true) (hA' : noRef A' = true) (hw : A.wr = true) (hw' : A'.wr = true)
    (hl : B.lv = true ∧ C.lv = true) (hsB : inScopeB 3 B ∧ inScopeB 3 C) {H : Heap} {a b c : Nat} (ha : H[a]? = some A)
    (hb : H[b]? = some (renB (kap [a, b, c] 3 H.length) B)) (hc : H[c]? = some (renB (kap [a, b, c] 3 H.length) C)) (hnd : [a, b, c].Nodup)
    {args' : List AV} {v' : AV} (hs : inScopes 3 args) (hargs : rens (kap [a, b, c] 3 H.length) args = args') (hv : ren (kap [a, b, c] 3 H.length) v = v') :
    ACall P [a] f args' H v' (H.set a A') := by
  subst hargs; subst hv
  have hne : a ≠ b ∧ a ≠ c := by simp at hnd; omega
  have := ACall.frame (Hm := [A, B, C]) (Hm' := [A', B, C]) (N := []) h rfl (H := H) [a, b, c] rfl hnd (fun i E hi => by
    match i with
    | 0 => simp at hi; subst hi; simpa [renB_of hA] using ha
    | 1 => simp at hi; subst hi; simpa using hb
    | 2 => simp at hi; subst hi; simpa using hc
    | i + 3 => simp at hi) hs (fun E hE => by
      simp at hE
      rcases hE with rfl | rfl | rfl
      · exact sc_of hA _
      · exact hsB.1
      · exact hsB.2) (fun i hi => by
    simp at hi
    subst hi
    refine ⟨by simp, fun E hE => ?_⟩
    simp at hE
    subst hE
    exact hw) (fun E hE => by
      simp at hE
      rcases hE with rfl | rfl | rfl
      · exact lv_of hA
      · exact hl.1
      · exact hl.2) (by simp [hw, hw'])
  simp only [setAll, renB_of hA', List.length_cons, List.length_nil, Nat.zero_add, List.map_nil, List.append_nil, List.map_cons] at this
  have e0 : kap [a, b, c] (1 + 1 + 1) H.length 0 = a := by simp [kap]
  have e1 : kap [a, b, c] (1 + 1 + 1) H.length 1 = b := by simp [kap]
  have e2 : kap [a, b, c] (1 + 1 + 1) H.length (1 + 1) = c := by simp [kap]
  rw [e0, e1, e2, set_same (H := H.set a A') (by rw [List.getElem?_set_ne hne.1]; exact hb), set_same (H := H.set a A') (by rw [List.getElem?_set_ne hne.2]; exact hc)] at this
  exact this

noncomputable def edgeKeep (s : SheetM) (p : SpotM) : Bool := decide (0 < wetM s p.x p.y) && (nbrs s p.x p.y).any (fun q => decide (¬ 0 < wetM s q.x q.y))
noncomputable abbrev edgeL (s : SheetM) : List SpotM := (cellsL s.w.toNat s.h.toNat).filter (edgeKeep s)
theorem fstD_any {keep : SpotM → Bool} {l : List SpotM} : (0 ≤ (if fstD keep l = l.length then (-1 : Int) else (fstD keep l : Int))) ↔ (l.any fun p => !keep p) = true := by
  unfold fstD
  by_cases h : (l.any fun p => !keep p) = true
  · have h2 := List.any_eq_true.1 h
    obtain ⟨x, hx, hk⟩ := h2
    have : l.findIdx (fun v => !keep v) < l.length := List.findIdx_lt_length_of_exists ⟨x, hx, hk⟩
    rw [if_neg (by omega)]
    simp only [h, iff_true]
    omega
  · have : l.findIdx (fun v => !keep v) = l.length := by
      rw [List.findIdx_eq_length]
      intro x hx
      cases hk : !keep x with
      | false => rfl
      | true => exact absurd (List.any_eq_true.2 ⟨x, hx, hk⟩) h
    rw [if_pos this]
    simp only [h]
    constructor
    · intro h; omega
    · intro h; cases h
end Ink
/- A reader of three blocks that makes new ones; rows of bools; cells at a ring. No conditions. -/
namespace Ink
open Go
theorem ACall.new3 {P : Program} {f : FuncId} {args : List AV} {v : AV} {B C D : Blk} {N : Heap} (h : ACall P [] f args [B, C, D] v ([B, C, D] ++ N)) (hB : noRef B = true) (hC : noRef C = true) (hD : noRef D = true) {H : Heap} {b c d : Nat} (hb : H[b]? = some B) (hc : H[c]? = some C) (hd : H[d]? = some D) (hnd : [b, c, d].Nodup)
    {args' : List AV} {v' : AV} {N' : Heap} (hs : inScopes 3 args) (ha : rens (kap [b, c, d] 3 H.length) args = args') (hv : ren (kap [b, c, d] 3 H.length) v = v') (hN : N.map (renB (kap [b, c, d] 3 H.length)) = N') :
    ACall P [] f args' H v' (H ++ N') := by
  subst ha; subst hv; subst hN
  have := ACall.frame (Hm := [B, C, D]) (Hm' := [B, C, D]) (N := N) h rfl (H := H) [b, c, d] rfl hnd (fun i E hi => by
    match i with
    | 0 => simp at hi; subst hi; simp [renB_of hB, hb]
    | 1 => simp at hi; subst hi; simp [renB_of hC, hc]
    | 2 => simp at hi; subst hi; simp [renB_of hD, hd]
    | i + 3 => simp at hi) hs (fun E hE => by
      simp at hE
      rcases hE with rfl | rfl | rfl
      · exact sc_of hB _
      · exact sc_of hC _
      · exact sc_of hD _) (fun i hi => by simp at hi) (fun E hE => by
      simp at hE
      rcases hE with rfl | rfl | rfl
      · exact lv_of hB
      · exact lv_of hC
      · exact lv_of hD) rfl
  simp only [setAll, renB_of hB, renB_of hC, renB_of hD, List.length_cons, List.length_nil, Nat.zero_add, List.map_nil] at this
  have e0 : kap [b, c, d] (1 + 1 + 1) H.length 0 = b := by simp [kap]
  have e1 : kap [b, c, d] (1 + 1 + 1) H.length 1 = c := by simp [kap]
  have e2 : kap [b, c, d] (1 + 1 + 1) H.length (1 + 1) = d := by simp [kap]
  rw [e0, e1, e2, set_same hb, set_same hc, set_same hd] at this
  exact this

/-! ### Rows of bools -/
def b2 (g : Nat → Nat → Bool) : DV := .arr fun j => .arr fun i => .bool (g j i)
def v2 (g : Nat → Nat → Bool) (y x : Nat) (v : Bool) : Nat → Nat → Bool := fun j i => if j = y ∧ i = x then v else g j i
section
variable {g : Nat → Nat → Bool} {x y : Nat} {v : Bool}
theorem b2_get : (b2 g).get [y, x] = .bool (g y x) := by unfold b2; simp only [DV.get]
theorem b2_set : (b2 g).set [y, x] (.bool v) = b2 (v2 g y x v) := by
  unfold b2 v2
  simp only [DV.set]
  congr 1
  funext j
  by_cases hj : j = y
  · subst hj
    rw [if_pos rfl]
    congr 1
    funext i
    by_cases hi : i = x
    · simp [hi]
    · simp [hi]
  · rw [if_neg hj]
    congr 1
    funext i
    rw [if_neg (fun h => hj h.1)]
theorem b2_zero {m m' : Nat} : (Sh.arr m (.arr m' .bool)).zero = b2 fun _ _ => false := rfl
/-- Cells up to a place are told, and others are not. -/
def inG (f : Nat → Nat → Bool) (y x : Nat) : Nat → Nat → Bool := fun j i => (decide (j < y ∧ i < 8) || decide (j = y ∧ i < x)) && f j i
variable {f : Nat → Nat → Bool}
theorem inG_zero : inG f 0 0 = fun _ _ => false := by funext j i; simp [inG]
theorem inG_row : inG f y 8 = inG f (y + 1) 0 := by
  funext j i; unfold inG
  have : (decide (j < y ∧ i < 8) || decide (j = y ∧ i < 8)) = (decide (j < y + 1 ∧ i < 8) || decide (j = y + 1 ∧ i < 0)) := by
    rw [Bool.eq_iff_iff]; simp; omega
  rw [this]
theorem inG_next (hx : x < 8) : v2 (inG f y x) y x (f y x) = inG f y (x + 1) := by
  funext j i
  unfold v2 inG
  by_cases h : j = y ∧ i = x
  · obtain ⟨rfl, rfl⟩ := h
    simp
  · rw [if_neg h]
    have : (decide (j < y ∧ i < 8) || decide (j = y ∧ i < x)) = (decide (j < y ∧ i < 8) || decide (j = y ∧ i < x + 1)) := by
      rw [Bool.eq_iff_iff]; simp; omega
    rw [this]
/-- The spots of those cells that are told, up to a place. -/
def lsTo (f : Nat → Nat → Bool) (y x : Nat) : List SpotM := (cellsL 8 8).take (8 * y + x) |>.filter fun p => f p.y.toNat p.x.toNat
theorem lsTo_zero : lsTo f 0 0 = [] := by simp [lsTo]
theorem lsTo_row : lsTo f y 8 = lsTo f (y + 1) 0 := by unfold lsTo; rw [show 8 * y + 8 = 8 * (y + 1) + 0 by omega]
theorem lsTo_get (hy : y < 8) (hx : x < 8) : (cellsL 8 8)[8 * y + x]? = some ⟨(x : Int), (y : Int)⟩ := by
  rw [cellsL_get (by omega), show (8 * y + x) % 8 = x by omega, show (8 * y + x) / 8 = y by omega]
theorem lsTo_yes (hy : y < 8) (hx : x < 8) (h : f y x = true) : lsTo f y (x + 1) = lsTo f y x ++ [⟨(x : Int), (y : Int)⟩] := by
  have hg := lsTo_get hy hx
  exact keptTo_yes (keep := fun p => f p.y.toNat p.x.toNat) hg (by simpa using h)
theorem lsTo_no (hy : y < 8) (hx : x < 8) (h : f y x = false) : lsTo f y (x + 1) = lsTo f y x := by
  have hg := lsTo_get hy hx
  exact keptTo_no (keep := fun p => f p.y.toNat p.x.toNat) hg (by simpa using h)
theorem lsTo_len : (lsTo f y x).length ≤ 8 * y + x := keptTo_len
theorem lsTo_all : lsTo f 8 0 = (cellsL 8 8).filter fun p => f p.y.toNat p.x.toNat := by
  unfold lsTo
  rw [List.take_of_length_le (by rw [cellsL_len]; omega)]
end
theorem cellsL_row {w h : Nat} : cellsL w h = (List.range h).flatMap fun (y : Nat) => (List.range w).map fun (x : Nat) => (⟨(x : Int), (y : Int)⟩ : SpotM) := by
  unfold cellsL
  induction h with
  | zero => simp
  | succ h ih =>
    rw [List.range_succ, List.flatMap_append, ← ih, Nat.mul_succ, List.range_add, List.map_append]
    congr 1
    simp only [List.flatMap_cons, List.flatMap_nil, List.append_nil, List.map_map]
    apply List.map_congr_left
    intro x hx
    have hx' := List.mem_range.1 hx
    have hw : 0 < w := by omega
    simp only [Function.comp, SpotM.mk.injEq]
    rw [Nat.mul_add_mod, Nat.mod_eq_of_lt hx', Nat.mul_add_div hw, Nat.div_eq_of_lt hx']
    simp
/-- Cells that lie outside are not told. -/
theorem cellsL_8 {w h : Nat} (hw : w ≤ 8) (hh : h ≤ 8) {keep : SpotM → Bool} (hk : ∀ x y : Nat, x < 8 → y < 8 → ¬ (x < w ∧ y < h) → keep ⟨(x : Int), (y : Int)⟩ = false) : (cellsL 8 8).filter keep = (cellsL w h).filter keep := by
  have row : ∀ y : Nat, y < 8 → ((List.range 8).map fun (x : Nat) => (⟨(x : Int), (y : Int)⟩ : SpotM)).filter keep = ((List.range (if y < h then w else 0)).map fun (x : Nat) => (⟨(x : Int), (y : Int)⟩ : SpotM)).filter keep := by
    intro y hy8
    have h8 : 8 = (if y < h then w else 0) + (8 - (if y < h then w else 0)) := by split <;> omega
    conv => lhs; rw [h8, List.range_add, List.map_append, List.filter_append]
    have e : List.filter keep (List.map (fun (x : Nat) => (⟨(x : Int), (y : Int)⟩ : SpotM)) (List.map (fun x => (if y < h then w else 0) + x) (List.range (8 - (if y < h then w else 0))))) = [] := by
      rw [List.filter_eq_nil_iff]
      intro p hp
      obtain ⟨x, hx, rfl⟩ := List.mem_map.1 hp
      obtain ⟨q, hq, rfl⟩ := List.mem_map.1 hx
      have hq' := List.mem_range.1 hq
      rw [hk _ _ (by omega) hy8 (by split <;> omega)]
      simp
    rw [e, List.append_nil]
  rw [cellsL_row, cellsL_row, List.filter_flatMap, List.filter_flatMap]
  have key : ∀ (F : Nat → List SpotM), (∀ y, h ≤ y → y < 8 → F y = []) → (List.range 8).flatMap F = (List.range h).flatMap F := by
    intro F hF
    have h8 : (8 : Nat) = h + (8 - h) := by omega
    rw [h8, List.range_add, List.flatMap_append]
    have : ((List.range (8 - h)).map (h + ·)).flatMap F = [] := by
      rw [List.flatMap_eq_nil_iff]
      intro y hy
      obtain ⟨q, hq, rfl⟩ := List.mem_map.1 hy
      have hq' := List.mem_range.1 hq
      exact hF _ (by omega) (by omega)
    rw [this, List.append_nil]
  rw [key _ (fun y hy h8 => by rw [row y h8, if_neg (by omega)]; simp)]
  simp only [List.flatMap_def]
  congr 1
  apply List.map_congr_left
  intro y hy
  have hy' := List.mem_range.1 hy
  rw [row y (by omega), if_pos hy']
theorem ringC_out {o t : SheetM} {W n j i : Nat} {r : Int} {g : Nat → Nat → Int} (h : ∀ m, m < n → ¬ (m / W = j ∧ m % W = i)) : ringC o t W r g n j i = g j i := by
  induction n with
  | zero => rfl
  | succ n ih =>
    have h1 := ih fun m hm => h m (by omega)
    rw [ringC]
    split
    · rw [u2_at, if_neg (fun e => h n (by omega) ⟨e.1.symm, e.2.symm⟩)]
      exact h1
    · exact h1
theorem ringR_out {s : SheetM} {k x y : Nat} (ho : ¬ (x < s.w.toNat ∧ y < s.h.toNat)) : ringR s k y x = ring0 s y x := by
  induction k with
  | zero => rfl
  | succ k ih =>
    rw [ringR_succ, ringC_out, ih]
    rintro m hm ⟨h1, h2⟩
    have := cell_in hm
    omega
theorem ringsM_out {s : SheetM} {x y : Nat} (hx : x < 8) (hy : y < 8) (ho : ¬ (x < s.w.toNat ∧ y < s.h.toNat)) : ringsM s y x = -1 := by
  unfold ringsM
  rw [ringR_out ho]
  unfold ring0 upG
  rw [if_pos]
  refine ⟨by omega, fun h => ?_⟩
  have := h.1
  unfold hasP at this
  omega
def ringKeep (f : Nat → Nat → Int) (r : Int) (p : SpotM) : Bool := decide (f p.y.toNat p.x.toNat = r)
noncomputable abbrev ringL (s : SheetM) (r : Int) : List SpotM := (cellsL s.w.toNat s.h.toNat).filter (ringKeep (ringsM s) r)
theorem ringL_8 {s : SheetM} {r : Int} (hm : small s) (hr : 0 ≤ r) : (cellsL 8 8).filter (ringKeep (ringsM s) r) = ringL s r := by
  refine cellsL_8 (by omega) (by omega) fun x y hx hy ho => ?_
  have h := ringsM_out hx hy ho
  exact decide_eq_false (fun e => by simp only [Int.toNat_natCast] at e; omega)
theorem ringL_len {s : SheetM} {r : Int} (hm : small s) : (ringL s r).length ≤ 1000 := by
  have hwh : s.w.toNat * s.h.toNat ≤ 8 * 8 := Nat.mul_le_mul (by omega) (by omega)
  have h1 : (ringL s r).length ≤ (cellsL s.w.toNat s.h.toNat).length := List.length_filter_le _ _
  rw [cellsL_len] at h1
  omega
end Ink
/- A writer of two blocks; what the program means: a brush that touches a cell. No conditions. -/
namespace Ink
open Go
theorem ACall.at2ww {P : Program} {f : FuncId} {args : List AV} {v : AV} {B B' C C' : Blk} (h : ACall P [0, 1] f args [B, C] v [B', C']) (hB : noRef B = true) (hB' : noRef B' = true) (hC : noRef C = true) (hC' : noRef C' = true) (hw : B.wr = true ∧ B'.wr = true) (hw2 : C.wr = true ∧ C'.wr = true) {H : Heap} {b c : Nat} (hb : H[b]? = some B) (hc : H[c]? = some C) (hne : b ≠ c) {args' : List AV} (hs : inScopes 2 args) (ha : rens (kap [b, c] 2 H.length) args = args') (hv : plain v = true) :
    ACall P [b, c] f args' H v ((H.set b B').set c C') := by
  subst ha
  have h2 := plain_ren (σ := kap [b, c] 2 H.length) (m := 0) hv
  have := ACall.frame (Hm := [B, C]) (Hm' := [B', C']) (N := []) h rfl (H := H) [b, c] rfl (by simp [hne]) (fun i D hi => by
    match i with
    | 0 => simp at hi; subst hi; simp [renB_of hB, hb]
    | 1 => simp at hi; subst hi; simp [renB_of hC, hc]
    | i + 2 => simp at hi) hs (fun D hD => by
      simp at hD
      rcases hD with rfl | rfl
      · exact sc_of hB _
      · exact sc_of hC _) (fun i hi => by
      simp at hi
      rcases hi with rfl | rfl
      · exact ⟨by simp, fun D hD => by simp at hD; subst hD; exact hw.1⟩
      · exact ⟨by simp, fun D hD => by simp at hD; subst hD; exact hw2.1⟩) (fun D hD => by
      simp at hD
      rcases hD with rfl | rfl
      · exact lv_of hB
      · exact lv_of hC) (by simp [hw, hw2])
  simp only [setAll, renB_of hB', renB_of hC', List.length_cons, List.length_nil, Nat.zero_add, List.map_nil, List.append_nil, List.map_cons] at this
  have e0 : kap [b, c] (1 + 1) H.length 0 = b := by simp [kap]
  have e1 : kap [b, c] (1 + 1) H.length 1 = c := by simp [kap]
  rw [e0, e1] at this
  rw [h2.1] at this
  simpa using this
/-- A brush touches a cell: after the first inks. -/
noncomputable def tch (s : SheetM) (b : BrushM) (x y : Int) : Nat → SheetM × BrushM
  | 0 => (s, b)
  | k + 1 => ({ (tch s b x y k).1 with dye := u3 (tch s b x y k).1.dye y.toNat x.toNat k ((tch s b x y k).1.dye y.toNat x.toNat k + leaveD s b x y k) }, { (tch s b x y k).2 with dye := u1 (tch s b x y k).2.dye k ((tch s b x y k).2.dye k - leaveD s b x y k) })
noncomputable def tchS (s : SheetM) (b : BrushM) (x y : Int) : SheetM := { (tch s b x y 3).1 with wet := u2 (tch s b x y 3).1.wet y.toNat x.toNat (s.wet y.toNat x.toNat + leaveW s b x y) }
noncomputable def tchB (s : SheetM) (b : BrushM) (x y : Int) : BrushM := { (tch s b x y 3).2 with water := b.water - leaveW s b x y }
section
variable {s : SheetM} {b : BrushM} {x y : Int} {k : Nat}
theorem tch_zero : tch s b x y 0 = (s, b) := rfl
theorem tch_succ : tch s b x y (k + 1) = ({ (tch s b x y k).1 with dye := u3 (tch s b x y k).1.dye y.toNat x.toNat k ((tch s b x y k).1.dye y.toNat x.toNat k + leaveD s b x y k) }, { (tch s b x y k).2 with dye := u1 (tch s b x y k).2.dye k ((tch s b x y k).2.dye k - leaveD s b x y k) }) := rfl
theorem tch_same : (tch s b x y k).1.w = s.w ∧ (tch s b x y k).1.h = s.h ∧ (tch s b x y k).1.wet = s.wet ∧ (tch s b x y k).1.wax = s.wax ∧ (tch s b x y k).2.water = b.water ∧ (tch s b x y k).2.share = b.share := by
  induction k with
  | zero => exact ⟨rfl, rfl, rfl, rfl, rfl, rfl⟩
  | succ k ih => rw [tch_succ]; exact ih
theorem tch_dye {j i q : Nat} : (tch s b x y k).1.dye j i q = if j = y.toNat ∧ i = x.toNat ∧ q < k then s.dye j i q + leaveD s b x y q else s.dye j i q := by
  induction k with
  | zero => rw [if_neg (by omega)]; rfl
  | succ k ih =>
    have ihk : (tch s b x y k).1.dye y.toNat x.toNat k = s.dye y.toNat x.toNat k := by
      clear ih
      suffices h : ∀ m, m ≤ k → (tch s b x y m).1.dye y.toNat x.toNat k = s.dye y.toNat x.toNat k from h k (Nat.le_refl _)
      intro m
      induction m with
      | zero => intro _; rfl
      | succ m im =>
        intro hm
        rw [tch_succ]
        show u3 _ _ _ _ _ _ _ _ = _
        rw [u3_at, if_neg (by omega)]
        exact im (by omega)
    rw [tch_succ]
    show u3 _ _ _ _ _ _ _ _ = _
    rw [u3_at, ihk]
    by_cases h : j = y.toNat ∧ i = x.toNat ∧ q = k
    · obtain ⟨rfl, rfl, rfl⟩ := h
      rw [if_pos ⟨rfl, rfl, rfl⟩, if_pos ⟨rfl, rfl, by omega⟩]
    · rw [if_neg h, ih]
      by_cases h2 : j = y.toNat ∧ i = x.toNat ∧ q < k
      · rw [if_pos h2, if_pos ⟨h2.1, h2.2.1, by omega⟩]
      · rw [if_neg h2, if_neg (fun g => h2 ⟨g.1, g.2.1, by have : q ≠ k := fun e => h ⟨g.1, g.2.1, e⟩; omega⟩)]
theorem tch_bdye {q : Nat} : (tch s b x y k).2.dye q = if q < k then b.dye q - leaveD s b x y q else b.dye q := by
  induction k with
  | zero => rw [if_neg (by omega)]; rfl
  | succ k ih =>
    rw [tch_succ]
    show u1 _ _ _ _ = _
    have hk : (tch s b x y k).2.dye k = b.dye k := by
      clear ih
      suffices h : ∀ m, m ≤ k → (tch s b x y m).2.dye k = b.dye k from h k (Nat.le_refl _)
      intro m
      induction m with
      | zero => intro _; rfl
      | succ m im =>
        intro hm
        rw [tch_succ]
        show u1 _ _ _ _ = _
        rw [u1_at, if_neg (by omega)]
        exact im (by omega)
    rw [u1_at, hk, ih]
    by_cases h : q = k
    · subst h; rw [if_pos rfl, if_pos (by omega)]
    · rw [if_neg h]
      by_cases h2 : q < k
      · rw [if_pos h2, if_pos (by omega)]
      · rw [if_neg h2, if_neg (by omega)]
theorem tch_bd (hv : validS s) (hb : brushP b) (hh : hasP s x y) (hk : k < 3) : (tch s b x y k).1.dye y.toNat x.toNat k = s.dye y.toNat x.toNat k ∧ (tch s b x y k).2.dye k = b.dye k ∧
    IntKind.i16.wrap (s.dye y.toNat x.toNat k + leaveD s b x y k) = s.dye y.toNat x.toNat k + leaveD s b x y k ∧ IntKind.i16.wrap (b.dye k - leaveD s b x y k) = b.dye k - leaveD s b x y k ∧ IntKind.i16.wrap (leaveD s b x y k) = leaveD s b x y k := by
  have h1 := leaveD_bd hv hb hh k hk
  have h2 := (cell_bd hv hh).2 k hk
  have h3 := hb.1 k hk
  refine ⟨by rw [tch_dye, if_neg (by omega)], by rw [tch_bdye, if_neg (by omega)], wrap_i16 (by omega) (by omega), wrap_i16 (by omega) (by omega), wrap_i16 (by omega) (by omega)⟩
theorem tch_wbd (hv : validS s) (hb : brushP b) (hh : hasP s x y) : IntKind.i16.wrap (s.wet y.toNat x.toNat + leaveW s b x y) = s.wet y.toNat x.toNat + leaveW s b x y ∧ IntKind.i16.wrap (b.water - leaveW s b x y) = b.water - leaveW s b x y ∧ IntKind.i16.wrap (leaveW s b x y) = leaveW s b x y := by
  have h1 := leaveW_bd hv hb hh
  have h2 : 0 ≤ s.wet y.toNat x.toNat ∧ s.wet y.toNat x.toNat ≤ 200 := (cell_bd hv hh).1
  have h3 := hb.2.2.1
  exact ⟨wrap_i16 (by omega) (by omega), wrap_i16 (by omega) (by omega), wrap_i16 (by omega) (by omega)⟩
def zeroBrush : BrushM := ⟨fun _ => 0, 0, 0⟩
noncomputable def tchV (s : SheetM) (b : BrushM) (x y : Int) : AV :=
  .tup [.agg shSheet (sheetD (if askB s b x y = 0 then tchS s b x y else zeroSheet)), .agg shBrush (brushD (if askB s b x y = 0 then tchB s b x y else zeroBrush)), .int .i64 (askB s b x y)]
theorem tchV_ok (e : askB s b x y = 0) : tchV s b x y = .tup [.agg shSheet (sheetD (tchS s b x y)), .agg shBrush (brushD (tchB s b x y)), .int .i64 0] := by unfold tchV; rw [if_pos e, if_pos e, e]
theorem tchV_ne {c : Int} (e : askB s b x y = c) (hc : c ≠ 0) : tchV s b x y = .tup [.agg shSheet (sheetD zeroSheet), .agg shBrush (brushD zeroBrush), .int .i64 c] := by unfold tchV; rw [e, if_neg hc, if_neg hc]
end
end Ink
/- What the program means: sheets that can be folded. No conditions. -/
namespace Ink
open Go
theorem fstD_anyG {α : Type} {keep : α → Bool} {l : List α} : (0 ≤ (if fstD keep l = l.length then (-1 : Int) else (fstD keep l : Int))) ↔ (l.any fun p => !keep p) = true := by
  unfold fstD
  by_cases h : (l.any fun p => !keep p) = true
  · have h2 := List.any_eq_true.1 h
    obtain ⟨x, hx, hk⟩ := h2
    have : l.findIdx (fun v => !keep v) < l.length := List.findIdx_lt_length_of_exists ⟨x, hx, hk⟩
    rw [if_neg (by omega)]
    simp only [h, iff_true]
    omega
  · have : l.findIdx (fun v => !keep v) = l.length := by
      rw [List.findIdx_eq_length]
      intro x hx
      cases hk : !keep x with
      | false => rfl
      | true => exact absurd (List.any_eq_true.2 ⟨x, hx, hk⟩) h
    rw [if_pos this]
    simp only [h]
    constructor
    · intro h; omega
    · intro h; cases h
def farK (s : SheetM) (p : PairM) (k : Nat) : Bool := (List.range k).any fun q => !decide (-1 ≤ pairA s p q - pairB s p q ∧ pairA s p q - pairB s p q ≤ 1)
section
variable {s : SheetM} {p : PairM} {k i : Nat} {l : List PairM}
theorem farK_zero : farK s p 0 = false := rfl
theorem farK_succ : farK s p (k + 1) = (farK s p k || !decide (-1 ≤ pairA s p k - pairB s p k ∧ pairA s p k - pairB s p k ≤ 1)) := by
  unfold farK; rw [List.range_succ, List.any_append]; simp
theorem farK_no (h : farK s p k = false) (h2 : -1 ≤ pairA s p k - pairB s p k ∧ pairA s p k - pairB s p k ≤ 1) : farK s p (k + 1) = false := by rw [farK_succ, h, decide_eq_true h2]; rfl
theorem farK_yes (hk : k < 3) (h2 : ¬ (-1 ≤ pairA s p k - pairB s p k ∧ pairA s p k - pairB s p k ≤ 1)) : farK s p 3 = true := by
  unfold farK
  rw [List.any_eq_true]
  exact ⟨k, List.mem_range.2 hk, by rw [decide_eq_false h2]; rfl⟩
theorem maxM_le {a b c : Int} : maxM a b ≤ c ↔ a ≤ c ∧ b ≤ c := by unfold maxM; split <;> omega
theorem mxInk_le {f : Nat → Int} {m c : Int} : mxInk f m k ≤ c ↔ m ≤ c ∧ ∀ q < k, f q ≤ c := by
  induction k with
  | zero => simp [mxInk]
  | succ k ih =>
    rw [mxInk_succ, maxM_le, ih]
    constructor
    · rintro ⟨⟨h1, h2⟩, h3⟩
      refine ⟨h1, fun q hq => ?_⟩
      by_cases h : q = k
      · subst h; exact h3
      · exact h2 q (by omega)
    · rintro ⟨h1, h2⟩
      exact ⟨⟨h1, fun q hq => h2 q (by omega)⟩, h2 k (by omega)⟩
theorem size_le1 {d : Int} : sizeM d ≤ 1 ↔ -1 ≤ d ∧ d ≤ 1 := by unfold sizeM; rw [maxM_le]; omega
theorem farK_3 : farK s p 3 = false ↔ ∀ q < 3, diffK (pairA s p) (pairB s p) q ≤ 1 := by
  unfold farK
  rw [List.any_eq_false]
  constructor
  · intro h q hq
    have := h q (List.mem_range.2 hq)
    unfold diffK
    rw [size_le1]
    simpa using this
  · intro h q hq
    have := h q (List.mem_range.1 hq)
    unfold diffK at this
    rw [size_le1] at this
    simpa using this
theorem mxTo_le (hi : i ≤ l.length) : mxTo s l i ≤ 1 ↔ ∀ p ∈ l.take i, farK s p 3 = false := by
  induction i with
  | zero => simp [mxTo]
  | succ i ih =>
    have hg : l[i]? = some l[i] := List.getElem?_eq_getElem (by omega)
    rw [mxTo_succ hg, mxInk_le, ih (by omega), List.take_succ_eq_append_getElem (show i < l.length by omega)]
    rw [← farK_3]
    constructor
    · rintro ⟨h1, h2⟩ p hp
      rcases List.mem_append.1 hp with hp | hp
      · exact h1 p hp
      · rw [List.mem_singleton.1 hp]; exact h2
    · intro h
      exact ⟨fun p hp => h p (List.mem_append_left _ hp), h _ (List.mem_append_right _ (by simp))⟩
end
theorem far_any {s : SheetM} {f : FoldM} : (!(pairsM s f).any fun p => farK s p 3) = decide (mxM s f ≤ 1) := by
  have h := mxTo_le (s := s) (l := pairsM s f) (Nat.le_refl _)
  rw [List.take_length] at h
  cases hq : (pairsM s f).any fun p => farK s p 3 with
  | true =>
    obtain ⟨p, hp, hf⟩ := List.any_eq_true.1 hq
    exact (decide_eq_false (fun hm => by have := h.1 hm p hp; rw [hf] at this; cases this)).symm
  | false =>
    refine (decide_eq_true (h.2 fun p hp => ?_)).symm
    have := List.any_eq_false.1 hq p hp
    simpa using this
noncomputable def canV (s : SheetM) (f : FoldM) : AV := .tup [.bool (decide (askF s f true = 0 ∧ mxM s f ≤ 1)), .int .i64 (askF s f true)]
section
variable {s : SheetM} {f : FoldM} {c : Int}
theorem canV_ok (e : askF s f true = 0) : canV s f = .tup [.bool (decide (mxM s f ≤ 1)), .int .i64 0] := by simp [canV, e]
theorem canV_no (e : askF s f true = c) (hc : c ≠ 0) : canV s f = .tup [.bool false, .int .i64 c] := by simp [canV, e, hc]
end
end Ink
/- The top of a law that takes lists of data without pointers: what the row asks, out of a contract. No conditions. -/
namespace Ink
open Go Go.ChangeShapes Go.WideShapes Go.RowKit
/-- A type that holds no pointer, or a list of such. -/
def sliceT (P : Program) (k : Nat) (t : TypeId) : Bool := match P.underlying t with
  | some (.slice e) => pureT P k e && P.cellsOf e != 0
  | _ => pureT P k t
section
variable {H : Type} {enc : TypeId × Value → H} {P : Program} {w w' : World}
theorem cells_keep {a : Addr} {n : Nat} (hk : ∀ b, b < w.heap.size → w'.heap[b]? = w.heap[b]?) (ha : a.block < w.heap.size) : w'.cells? 0 a n = w.cells? 0 a n := by
  unfold World.cells?
  simp only [Nat.zero_le, if_true]
  congr 1
  funext i
  unfold World.cell?
  rw [block_add, hk _ ha]
theorem cells_out {a : Addr} {n : Nat} (hn : n ≠ 0) (ha : ¬ a.block < w.heap.size) : w.cells? 0 a n = none := by
  cases h : w.cells? 0 a n with
  | none => rfl
  | some l =>
    have := (World.cells?_some h).2.2 0 (by omega)
    unfold World.cell? at this
    rw [block_add, Array.getElem?_eq_none (by omega)] at this
    rw [List.getElem?_eq_getElem (by have := (World.cells?_some h).2.1; omega)] at this
    cases this
theorem mapM_some_of {α β : Type} {F F' : α → Option β} : ∀ {l : List α} {xs}, (∀ a ∈ l, ∀ x, F a = some x → F' a = some x) → l.mapM F = some xs → l.mapM F' = some xs
  | [], xs, _, h => by simpa using h
  | a :: l, xs, hF, h => by
    rw [List.mapM_cons] at h ⊢
    cases hq : F a with
    | none => simp [hq] at h
    | some x =>
      cases hr : l.mapM F with
      | none => simp [hq, hr] at h
      | some ys =>
        have h2 := mapM_some_of (l := l) (fun b hb => hF b (by simp [hb])) hr
        rw [hF a (by simp) x hq]
        simp [hq, hr] at h
        simp [h2, h]
theorem slice_trod {k fuel : Nat} {t : TypeId} {cs : List Value} {x : DataW H × List MemPlace} (hk : ∀ b, b < w.heap.size → w'.heap[b]? = w.heap[b]?) (hp : sliceT P k t = true) (h : DataW.trod enc P w 0 (fun _ => true) true fuel t cs = some x) :
    DataW.trod enc P w' 0 (fun b => decide (b < w.heap.size)) true fuel t cs = some x := by
  unfold sliceT at hp
  split at hp
  · rename_i e hu
    simp only [Bool.and_eq_true, bne_iff_ne, ne_eq] at hp
    obtain ⟨hp, hz⟩ := hp
    cases fuel with
    | zero => simp [DataW.trod] at h
    | succ fuel =>
      rcases DataW.trod_slice hu h with ⟨rfl, rfl⟩ | ⟨a, len, cap, elems, rest, n, hn, rfl, hx, hb, hl, hm, hlen, hel, hsp, _⟩
      · unfold DataW.trod
        rw [hu]
        rfl
      · cases hn
        have hel' : ∀ i, i < len → ((w'.cells? 0 (a.add (i * P.cellsOf e)) (P.cellsOf e)).bind (DataW.trod enc P w' 0 (fun b => decide (b < w.heap.size)) true fuel e)) = elems[i]? := by
          intro i hi
          have h1 := hel i hi
          rw [List.getElem?_eq_getElem (show i < elems.length by omega)] at h1 ⊢
          by_cases ha : a.block < w.heap.size
          · rw [cells_keep hk (by rw [block_add]; exact ha)]
            rw [Option.bind_eq_some_iff] at h1 ⊢
            obtain ⟨c, h2, h3⟩ := h1
            exact ⟨c, h2, (pure_trod hp h3).2⟩
          · rw [cells_out hz (by rw [block_add]; exact ha)] at h1
            cases h1
        have hrest : ∀ j, j < cap - len → ((w'.cells? 0 (a.add ((len + j) * P.cellsOf e)) (P.cellsOf e)).bind (DataW.trod enc P w' 0 (fun b => decide (b < w.heap.size)) true fuel e)) = rest[j]? := by
          intro j hj
          have h1 := (hsp rfl).2 j hj
          rw [List.getElem?_eq_getElem (show j < rest.length by rw [(hsp rfl).1]; exact hj)] at h1 ⊢
          by_cases ha : a.block < w.heap.size
          · rw [cells_keep hk (by rw [block_add]; exact ha)]
            rw [Option.bind_eq_some_iff] at h1 ⊢
            obtain ⟨c, h2, h3⟩ := h1
            exact ⟨c, h2, (pure_trod hp h3).2⟩
          · rw [cells_out hz (by rw [block_add]; exact ha)] at h1
            cases h1
        have mk : ∀ (n : Nat) (F : Nat → Option (DataW H × List MemPlace)) (l : List (DataW H × List MemPlace)), l.length = n → (∀ i, i < n → F i = l[i]?) → (List.range n).mapM F = some l := by
          intro n F l hl hF
          have := mapM_range_of (f := F) (g := fun i => l.getD i (.nil, [])) n fun i hi => by
            rw [hF i hi, List.getD_eq_getElem?_getD, List.getElem?_eq_getElem (show i < l.length by omega)]; rfl
          rw [this]
          congr 1
          apply List.ext_getElem?
          intro i
          by_cases hi : i < n
          · rw [List.getElem?_map, List.getElem?_range hi, List.getElem?_eq_getElem (show i < l.length by omega)]
            simp [List.getD_eq_getElem?_getD, List.getElem?_eq_getElem (show i < l.length by omega)]
          · rw [List.getElem?_eq_none (by simp; omega), List.getElem?_eq_none (by omega)]
        unfold DataW.trod
        rw [hu]
        simp only [Nat.zero_le, true_and]
        rw [if_pos ⟨hl, hm⟩, mk len _ elems hlen hel']
        simp only [Option.bind_some]
        by_cases ha : a.block < w.heap.size
        · simp only [ha, decide_true, if_true]
          rw [mk (cap - len) _ rest (hsp rfl).1 hrest, hx]
          rfl
        · simp only [ha, decide_false, Bool.false_eq_true, if_false]
          have hr0 : rest = [] := by
            cases hr : rest with
            | nil => rfl
            | cons y ys =>
              have hlr := (hsp rfl).1
              have hj : 0 < cap - len := by rw [← hlr, hr]; simp
              have h1 := (hsp rfl).2 0 hj
              rw [cells_out hz (by rw [block_add]; exact ha), hr] at h1
              cases h1
          rw [hx, hr0]
          rfl
  · exact (pure_trod hp h).2
theorem slice_TrodAll {k : Nat} (hk : ∀ b, b < w.heap.size → w'.heap[b]? = w.heap[b]?) : ∀ {ts : List TypeId} {vs : List Value} {ds : List (DataW H)} {ps : List MemPlace}, (ts.all fun t => sliceT P k t) = true → DataW.TrodAll enc P w 0 (fun _ => true) true ts vs ds ps →
    DataW.TrodAll enc P w' 0 (fun b => decide (b < w.heap.size)) true ts vs ds ps
  | [], [], [], ps, _, h => by simpa only [DataW.TrodAll] using h
  | t :: ts, v :: vs, d :: ds, ps, hp, h => by
    simp only [List.all_cons, Bool.and_eq_true] at hp
    obtain ⟨p, q, ⟨fuel, h1⟩, h2, rfl⟩ := h
    exact ⟨p, q, ⟨fuel, slice_trod hk hp.1 h1⟩, slice_TrodAll hk hp.2 h2, rfl⟩
  | [], _ :: _, _, _, _, h => h.elim
  | [], [], _ :: _, _, _, h => h.elim
  | _ :: _, [], _, _, _, h => h.elim
  | _ :: _, _ :: _, [], _, _, h => h.elim

/-- What a row asks that says 'true, and the arguments read as they did', where arguments are data or lists of data. -/
theorem post_trueS {f : Func} {s : ChangeSpec} {apart fresh handsOn : Bool} {W W' : World} {args : Array Value} {ds gs : List (DataW H)} {before : List MemPlace} {k : Nat} {tb : TypeId}
    (hW : DataW.Whole enc P f.params.toList s.vars apart W args.toList ds gs before) (hv : s.vars = []) (hp : (f.params.toList.all fun t => sliceT P k t) = true) (hr : f.resultTypes = #[tb]) (htb : P.underlying tb = some .bool)
    (hsr : (s.fn H (ds ++ gs)).results = [.lit (.bool true)]) (hsa : (s.fn H (ds ++ gs)).args = ds) (hsv : (s.fn H (ds ++ gs)).vars = [])
    (hk : W.keptBut W' fun _ => False) (hh : ∀ b, b < W.heap.size → W'.heap[b]? = W.heap[b]?) : s.post enc P f apart fresh handsOn false W args (.bool true) W' := by
  obtain ⟨p, q, hA, hV, rfl, hfz, hnd⟩ := id hW
  rw [hv] at hV
  obtain ⟨rfl, rfl⟩ := trodVars_none hV
  have hres : ∀ b sp hd, DataW.TrodAll enc P W' b sp hd f.resultTypes.toList ((Value.bool true).resultList f.resultTypes.size) (s.fn H (ds ++ [])).results [] := by
    intro b sp hd
    rw [hr, hsr]
    exact trodAll_mk1 (shut_bool htb true)
  refine ⟨ds, [], _, [], _, [], hW, hres _ _ _, by rw [hsa]; exact slice_TrodAll hh hp hA, ?_, World.keptBut_mono (fun p hp => hp.elim) hk, fun e => nomatch e⟩
  rw [hv, hsv]
  rfl
theorem kept_of_invS {ρ ρ' : Nat → Nat} {S : List BSh} {H' : Heap} (h : Inv ⟨ρ, w, S, [], fun _ => True, []⟩ ρ' H' w') : (w.keptBut w' fun _ => False) ∧ ∀ b, b < w.heap.size → w'.heap[b]? = w.heap[b]? := by
  have hh : ∀ b, b < w.heap.size → w'.heap[b]? = w.heap[b]? := fun b hb => h.old b trivial hb fun j hj => by simp at hj
  refine ⟨⟨h.os, h.out, fun i hi => ?_⟩, hh⟩
  rw [hh i hi]
  cases w.heap[i]? with
  | none => simp
  | some o => cases o <;> simp
theorem trodAll_get : ∀ {ts : List TypeId} {vs : List Value} {ds : List (DataW H)} {ps : List MemPlace} {base : Nat} {sp : Nat → Bool} {hd : Bool}, DataW.TrodAll enc P w base sp hd ts vs ds ps → ∀ (i : Nat) (t : TypeId) (v : Value), ts[i]? = some t → vs[i]? = some v → ∃ d p, DataW.Trod enc P w base sp hd t v d p
  | t :: ts, v :: vs, d :: ds, ps, _, _, _, h, 0, t', v', h1, h2 => by
    obtain ⟨p, q, h3, _, _⟩ := h
    simp at h1 h2
    subst h1; subst h2
    exact ⟨d, p, h3⟩
  | t :: ts, v :: vs, d :: ds, ps, _, _, _, h, i + 1, t', v', h1, h2 => by
    obtain ⟨p, q, _, h3, _⟩ := h
    exact trodAll_get h3 i t' v' (by simpa using h1) (by simpa using h2)
  | [], _, _, _, _, _, _, _, _, _, _, h1, _ => by simp at h1
  | _ :: _, [], _, _, _, _, _, _, _, _, _, _, h2 => by simp at h2
  | _ :: _, _ :: _, [], _, _, _, _, h, _, _, _, _, _ => h.elim
def okSp (p : SpotM) : Prop := ok8 p.x ∧ ok8 p.y
theorem spotW_of {v : DV} (h : Has shSpot v) (hw : Wf shSpot v) : ∃ p : SpotM, okSp p ∧ v = spotV p := by
  match v, h, hw with
  | .cons (.int _ x) (.cons (.int _ y) .unit), h, hw =>
    obtain ⟨rfl, rfl, _⟩ := h
    exact ⟨⟨x, y⟩, ⟨wf8 hw.1, wf8 hw.2.1⟩, rfl⟩
theorem list_of {σ : Sh} {α : Type} {ok : α → Prop} {g : α → DV} (hof : ∀ v, Has σ v → Wf σ v → ∃ p, ok p ∧ flat σ v = flat σ (g p)) : ∀ {L : List DV}, (∀ v ∈ L, Has σ v ∧ Wf σ v) → ∃ N : List α, N.length = L.length ∧ (∀ p ∈ N, ok p) ∧ L.flatMap (flat σ) = (N.map g).flatMap (flat σ)
  | [], _ => ⟨[], rfl, fun p hp => by simp at hp, rfl⟩
  | v :: L, h => by
    obtain ⟨p, h1, h2⟩ := hof v (h v (by simp)).1 (h v (by simp)).2
    obtain ⟨N, h3, h4, h5⟩ := list_of hof (L := L) fun u hu => h u (by simp [hu])
    refine ⟨p :: N, by simp [h3], fun q hq => ?_, by simp [h2, h5]⟩
    rcases List.mem_cons.1 hq with rfl | hq
    · exact h1
    · exact h4 q hq
/-- A list that comes from outside. -/
theorem open_list {base base' : Nat} {sp : Nat → Bool} {hd : Bool} {r : Reach} {t e : TypeId} {σ : Sh} {v : Value} {d : DataW H} {p : List MemPlace} {α : Type} {ok : α → Prop} {g : α → DV} (ht : P.underlying t = some (.slice e)) (hte : TyOk P σ e) (hz : σ.size ≠ 0) (hof : ∀ v, Has σ v → Wf σ v → ∃ p, ok p ∧ flat σ v = flat σ (g p)) (hg : ∀ p, Has σ (g p))
    (hval : Value.okWide P w r base t v) (h : DataW.Trod enc P w base' sp hd t v d p) :
    (∃ a cap, v = .slice a 0 cap) ∨ ∃ (blk off cap : Nat) (N : List α), (N ≠ [] ∧ N.length ≤ maxLen) ∧ v = .slice (some ⟨blk, off, none⟩) N.length cap ∧ (∀ p ∈ N, ok p) ∧ Rel (fun _ => blk) [.win off σ (N.map g)] w ∧ Rv (fun _ => blk) (shs [.win off σ (N.map g)]) w (.wsl 0 N.length) v := by
  obtain ⟨a, len, cap, rfl⟩ := okWide_slice ht hval
  obtain ⟨fuel, h⟩ := h
  rcases open_slice ht hte hz h with ⟨a', cap', he⟩ | ⟨blk, off, cap', L, ⟨hne, hml⟩, he, hL, c, T, fz, hb, hla⟩
  · have he' : (Value.slice a len cap) = .slice a' 0 cap' := by simpa [Value.cells] using he
    exact .inl ⟨a', cap', he'⟩
  · have he' : (Value.slice a len cap) = .slice (some ⟨blk, off, none⟩) L.length cap' := by simpa [Value.cells] using he
    obtain ⟨N, h1, h2, h3⟩ := list_of (ok := ok) (g := g) hof hL
    refine .inr ⟨blk, off, cap', N, ⟨?_, by rw [h1]; exact hml⟩, by rw [he', h1], h2, ⟨?_, ?_⟩, off, σ, rfl, .inl ⟨cap', by rw [he', h1]⟩⟩
    · intro hN; rw [hN] at h1; exact hne (List.eq_nil_of_length_eq_zero h1.symm)
    · intro i B hi
      match i with
      | 0 =>
        simp at hi
        subst hi
        refine ⟨fun x hx => ?_, c, T, fz, hb, by rw [← h3]; exact hla⟩
        obtain ⟨q, _, rfl⟩ := List.mem_map.1 hx
        exact hg q
      | i + 1 => simp at hi
    · intro i j A B hi hj hne _ _
      have := get_lt hi
      have := get_lt hj
      simp at *
      omega
end
end Ink
namespace Ink
open Go Go.ChangeShapes Go.WideShapes Go.RowKit
theorem spotX_of {v : DV} (h : Has shSpot v) (hw : Wf shSpot v) : ∃ p : SpotM, okSp p ∧ flat shSpot v = flat shSpot (spotV p) := by
  obtain ⟨p, h1, rfl⟩ := spotW_of h hw
  exact ⟨p, h1, rfl⟩
end Ink
/- What the program means: paths of cells. No conditions. -/
namespace Ink
open Go
def besideW (p : SpotM) : List SpotM := [⟨p.x, IntKind.i8.wrap (p.y - 1)⟩, ⟨IntKind.i8.wrap (p.x + 1), p.y⟩, ⟨p.x, IntKind.i8.wrap (p.y + 1)⟩, ⟨IntKind.i8.wrap (p.x - 1), p.y⟩]
theorem besideW_eq {p : SpotM} (h : in8 p.x p.y) : besideW p = besideL p.x p.y := by
  unfold besideW besideL
  rw [wrap_i8 (a := p.y - 1) (by omega) (by omega), wrap_i8 (a := p.x + 1) (by omega) (by omega), wrap_i8 (a := p.y + 1) (by omega) (by omega), wrap_i8 (a := p.x - 1) (by omega) (by omega)]
def stepW (a b : SpotM) : Prop := b ∈ besideW a
def stepL (a b : SpotM) : Prop := b ∈ besideL a.x a.y
def StepsTo (R : SpotM → SpotM → Prop) (N : List SpotM) (k : Nat) : Prop := ∀ (j : Nat) (h : j + 1 < N.length), j + 1 < k → R N[j] N[j + 1]
section
variable {R R' : SpotM → SpotM → Prop} {N : List SpotM} {k : Nat} {s : SheetM}
theorem steps_one : StepsTo R N 1 := fun j _ h => by omega
theorem steps_zero : StepsTo R N 0 := fun j _ h => by omega
theorem steps_succ (h : k + 1 < N.length) : StepsTo R N (k + 2) ↔ StepsTo R N (k + 1) ∧ R N[k] N[k + 1] := by
  constructor
  · intro hs
    exact ⟨fun j hj hk => hs j hj (by omega), hs k h (by omega)⟩
  · rintro ⟨h1, h2⟩ j hj hk
    by_cases hjk : j = k
    · subst hjk; exact h2
    · exact h1 j hj (by omega)
theorem steps_mono (h : StepsTo R N N.length) : StepsTo R N k := fun j hj _ => h j hj (by omega)
def isPathW (N : List SpotM) : Prop := StepsTo stepW N N.length ∧ 1 ≤ N.length ∧ N.length ≤ 80
def pathP (s : SheetM) (N : List SpotM) : Prop := (∀ p ∈ N, hasP s p.x p.y) ∧ StepsTo stepL N N.length ∧ 1 ≤ N.length ∧ N.length ≤ 80
theorem path_iff (hm : small s) (hh : ∀ p ∈ N, hasP s p.x p.y) : isPathW N ↔ pathP s N := by
  have he : ∀ (j : Nat) (h : j + 1 < N.length), (stepW N[j] N[j + 1] ↔ stepL N[j] N[j + 1]) := fun j h => by
    unfold stepW stepL
    rw [besideW_eq (in8_has hm (hh _ (List.getElem_mem _)))]
  constructor
  · rintro ⟨h1, h2⟩
    exact ⟨hh, fun j hj hk => (he j hj).1 (h1 j hj hk), h2⟩
  · rintro ⟨_, h1, h2⟩
    exact ⟨fun j hj hk => (he j hj).2 (h1 j hj hk), h2⟩
noncomputable instance {s N} : Decidable (pathP s N) := Classical.propDecidable _
noncomputable instance {N} : Decidable (isPathW N) := Classical.propDecidable _
noncomputable instance {a b} : Decidable (stepW a b) := Classical.propDecidable _
noncomputable instance {a b} : Decidable (stepL a b) := Classical.propDecidable _
/-- What 'ValidPath' tells. -/
theorem path_val : decide (validS s ∧ pathP s N) = (decide (validS s) && (decide (isPathW N) && !N.any fun p => decide (¬ hasP s p.x p.y))) := by
  by_cases hv : validS s
  · rw [decide_eq_true hv, Bool.true_and]
    by_cases hh : ∀ p ∈ N, hasP s p.x p.y
    · have ha : (N.any fun p => decide (¬ hasP s p.x p.y)) = false := by
        rw [List.any_eq_false]
        intro p hp
        simp [hh p hp]
      rw [ha, Bool.not_false, Bool.and_true]
      exact decide_eq_decide.2 ⟨fun h => (path_iff (valid_small hv) hh).2 h.2, fun h => ⟨hv, (path_iff (valid_small hv) hh).1 h⟩⟩
    · have ha : (N.any fun p => decide (¬ hasP s p.x p.y)) = true := by
        apply Classical.byContradiction
        intro hn
        apply hh
        intro p hp
        have hf : (N.any fun p => decide (¬ hasP s p.x p.y)) = false := by
          cases hq : N.any fun p => decide (¬ hasP s p.x p.y)
          · rfl
          · exact absurd hq hn
        have := List.any_eq_false.1 hf p hp
        simpa using this
      rw [ha, Bool.not_true, Bool.and_false]
      exact decide_eq_false fun h => hh h.2.1
  · rw [decide_eq_false hv, Bool.false_and]
    exact decide_eq_false fun h => hv h.1
/-! ### A path that is waxed -/
def pwx (s : SheetM) (N : List SpotM) : Nat → SheetM
  | 0 => s
  | i + 1 => match N[i]? with
    | some p => waxOn (pwx s N i) p.x p.y
    | none => pwx s N i
variable {i : Nat} {p : SpotM}
theorem pwx_zero : pwx s N 0 = s := rfl
theorem pwx_succ (h : N[i]? = some p) : pwx s N (i + 1) = waxOn (pwx s N i) p.x p.y := by rw [pwx, h]
theorem pwx_same : (pwx s N i).w = s.w ∧ (pwx s N i).h = s.h ∧ (pwx s N i).wet = s.wet ∧ (pwx s N i).dye = s.dye := by
  induction i with
  | zero => exact ⟨rfl, rfl, rfl, rfl⟩
  | succ i ih =>
    rw [pwx]
    split
    · exact ih
    · exact ih
theorem onU_bd {a x : Int} : 0 ≤ onU a x ∧ onU a x < 256 := by
  unfold onU
  simp only [IntKind.wrap, IntKind.signed, IntKind.bits]; simp; omega
theorem pwx_ok (hs : s.Ok) : (pwx s N i).Ok := by
  induction i with
  | zero => exact hs
  | succ i ih =>
    rw [pwx]
    split
    · refine ⟨ih.w, ih.h, ih.wet, ih.dye, fun j => ?_⟩
      show 0 ≤ u1 _ _ _ j ∧ u1 _ _ _ j < 256
      rw [u1_at]
      split
      · exact onU_bd
      · exact ih.wax j
    · exact ih
def emptyP (s : SheetM) (p : SpotM) : Prop := wetM s p.x p.y = 0 ∧ darkM s p.x p.y = 0
noncomputable instance {s p} : Decidable (emptyP s p) := Classical.propDecidable _
noncomputable def pwC (s : SheetM) (N : List SpotM) : Int := if ¬ validS s then 1 else if ¬ pathP s N then 2 else if (N.any fun p => decide (¬ emptyP s p)) = true then 4 else 0
noncomputable def pwV (s : SheetM) (N : List SpotM) : AV := .tup [.agg shSheet (sheetD (if pwC s N = 0 then pwx s N N.length else zeroSheet)), .int .i64 (pwC s N)]
theorem pwC_1 (h : ¬ validS s) : pwC s N = 1 := by unfold pwC; rw [if_pos h]
theorem pwC_2 (h : validS s) (h2 : ¬ pathP s N) : pwC s N = 2 := by unfold pwC; rw [if_neg (fun g => g h), if_pos h2]
theorem pwC_4 (h : validS s) (h2 : pathP s N) (h3 : (N.any fun p => decide (¬ emptyP s p)) = true) : pwC s N = 4 := by unfold pwC; rw [if_neg (fun g => g h), if_neg (fun g => g h2), if_pos h3]
theorem pwC_0 (h : validS s) (h2 : pathP s N) (h3 : ¬ (N.any fun p => decide (¬ emptyP s p)) = true) : pwC s N = 0 := by unfold pwC; rw [if_neg (fun g => g h), if_neg (fun g => g h2), if_neg h3]
theorem pwV_ok (h : pwC s N = 0) : pwV s N = .tup [.agg shSheet (sheetD (pwx s N N.length)), .int .i64 0] := by unfold pwV; rw [if_pos h, h]
theorem pwV_ne {c : Int} (h : pwC s N = c) (hc : c ≠ 0) : pwV s N = .tup [.agg shSheet (sheetD zeroSheet), .int .i64 c] := by unfold pwV; rw [h, if_neg hc]
end
section
variable {σ : Nat → Nat} {m : Nat}
theorem zo9 {b l} : inScope m (.wsl b l) = (b < m) := by unfold inScope; rfl
theorem zoa : inScope m .wz = True := by unfold inScope; rfl
theorem zob {b l} : ren σ (.wsl b l) = .wsl (σ b) l := by unfold ren; rfl
theorem zoc : ren σ .wz = .wz := by unfold ren; rfl
end
/-! ### Lists that are copied -/
def fillTo (N : List SpotM) (i : Nat) : List DV := (N.take i ++ List.replicate (N.length - i) (⟨0, 0⟩ : SpotM)).map spotV
section
variable {N : List SpotM} {i : Nat}
theorem fillTo_zero : fillTo N 0 = List.replicate N.length (spotD 0 0) := by unfold fillTo; simp [spotV]
theorem fillTo_all : fillTo N N.length = N.map spotV := by unfold fillTo; simp
theorem fillTo_len (h : i ≤ N.length) : (fillTo N i).length = N.length := by unfold fillTo; simp; omega
theorem fillTo_get (h : i < N.length) : (fillTo N i)[i]? = some (spotD 0 0) := by
  unfold fillTo
  rw [List.getElem?_map, List.getElem?_append_right (by simp; omega), List.getElem?_replicate]
  rw [if_pos (by simp; omega)]
  rfl
theorem fillTo_set (h : i < N.length) : (fillTo N i).set i (spotV N[i]) = fillTo N (i + 1) := by
  unfold fillTo
  rw [← List.map_set]
  congr 1
  rw [List.set_append_right _ _ (by simp; omega), List.take_succ_eq_append_getElem h, List.append_assoc]
  congr 1
  rw [show i - (N.take i).length = 0 by simp; omega, show N.length - i = (N.length - (i + 1)) + 1 by omega, List.replicate_succ]
  rfl
end
end Ink
/- What the program means: a brush along a path. No conditions. -/
namespace Ink
open Go
section
variable {s : SheetM} {b : BrushM} {x y : Int} {k : Nat}
theorem tchS_wet {j i : Nat} : (tchS s b x y).wet j i = if j = y.toNat ∧ i = x.toNat then s.wet j i + leaveW s b x y else s.wet j i := by
  obtain ⟨_, _, h3, _⟩ := tch_same (s := s) (b := b) (x := x) (y := y) (k := 3)
  show u2 (tch s b x y 3).1.wet _ _ _ j i = _
  rw [h3, u2_at]
  split
  · rename_i h; rw [h.1, h.2]
  · rfl
theorem tchS_dye {j i q : Nat} : (tchS s b x y).dye j i q = if j = y.toNat ∧ i = x.toNat ∧ q < 3 then s.dye j i q + leaveD s b x y q else s.dye j i q := by
  show (tch s b x y 3).1.dye j i q = _
  exact tch_dye
theorem tchS_same : (tchS s b x y).w = s.w ∧ (tchS s b x y).h = s.h ∧ (tchS s b x y).wax = s.wax := by
  obtain ⟨h1, h2, _, h4, _⟩ := tch_same (s := s) (b := b) (x := x) (y := y) (k := 3)
  exact ⟨h1, h2, h4⟩
theorem tchB_dye {q : Nat} : (tchB s b x y).dye q = if q < 3 then b.dye q - leaveD s b x y q else b.dye q := by
  show (tch s b x y 3).2.dye q = _
  exact tch_bdye
theorem tchB_same : (tchB s b x y).share = b.share ∧ (tchB s b x y).water = b.water - leaveW s b x y := by
  obtain ⟨_, _, _, _, _, h6⟩ := tch_same (s := s) (b := b) (x := x) (y := y) (k := 3)
  exact ⟨h6, rfl⟩
theorem tch_waxP {i j : Int} : waxP (tchS s b x y) i j ↔ waxP s i j := by unfold waxP; rw [tchS_same.2.2]
theorem tch_hasP {i j : Int} : hasP (tchS s b x y) i j ↔ hasP s i j := by unfold hasP; rw [tchS_same.1, tchS_same.2.1]
theorem tchS_ok (hs : s.Ok) (hv : validS s) (hb : brushP b) (hh : hasP s x y) : (tchS s b x y).Ok := by
  have hw := leaveW_bd hv hb hh
  have hc := cell_bd hv hh
  refine ⟨by rw [tchS_same.1]; exact hs.w, by rw [tchS_same.2.1]; exact hs.h, fun j i => ?_, fun j i q => ?_, fun j => by rw [tchS_same.2.2]; exact hs.wax j⟩
  · rw [tchS_wet]
    split
    · rename_i h
      have h1 : 0 ≤ s.wet y.toNat x.toNat ∧ s.wet y.toNat x.toNat ≤ 200 := hc.1
      rw [h.1, h.2]; omega
    · exact hs.wet j i
  · rw [tchS_dye]
    split
    · rename_i h
      have h1 := hc.2 q h.2.2
      have h2 := leaveD_bd hv hb hh q h.2.2
      rw [h.1, h.2.1]; omega
    · exact hs.dye j i q
theorem tchS_valid (hv : validS s) (hb : brushP b) (hh : hasP s x y) : validS (tchS s b x y) := by
  have h8 := ask_in8 hv hh
  have hw := leaveW_bd hv hb hh
  have hd := fun q hq => leaveD_bd hv hb hh q hq
  refine ⟨by rw [tchS_same.1]; exact hv.1, by rw [tchS_same.2.1]; exact hv.2.1, fun j hj i hi => ?_⟩
  obtain ⟨c1, c2, c3, c4⟩ := hv.2.2 j hj i hi
  refine ⟨fun h => tch_hasP.2 (c1 (tch_waxP.1 h)), ?_⟩
  unfold cellP
  unfold wetM at c2 c4 ⊢
  simp only [Int.toNat_natCast] at c2 c3 c4 ⊢
  by_cases he : j = y.toNat ∧ i = x.toNat
  · have e1 : ((i : Nat) : Int) = x := by omega
    have e2 : ((j : Nat) : Int) = y := by omega
    have z1 := c3 0 (by omega)
    have z2 := c3 1 (by omega)
    have z3 := c3 2 (by omega)
    have d1 := hd 0 (by omega)
    have d2 := hd 1 (by omega)
    have d3 := hd 2 (by omega)
    rw [tchS_wet, if_pos he, tchS_dye, if_pos ⟨he.1, he.2, by omega⟩, tchS_dye, if_pos ⟨he.1, he.2, by omega⟩, tchS_dye, if_pos ⟨he.1, he.2, by omega⟩]
    rw [← he.1, ← he.2] at hw d1 d2 d3
    refine ⟨by omega, fun q hq => ?_, ?_⟩
    · rw [tchS_dye, if_pos ⟨he.1, he.2, hq⟩]
      have := hd q hq
      rw [← he.1, ← he.2] at this
      have := c3 q hq
      omega
    · by_cases hx : waxP s x y
      · right
        have hz := c4.resolve_left (fun h => h.2 (by rw [e1, e2]; exact hx))
        have l1 : leaveW s b x y = 0 := by unfold leaveW; rw [if_pos hx]
        have l2 : ∀ q, leaveD s b x y q = 0 := fun q => by unfold leaveD; rw [if_pos hx]
        rw [l1, l2, l2, l2]
        omega
      · left
        rw [e1, e2]
        exact ⟨tch_hasP.2 hh, fun h => hx (tch_waxP.1 h)⟩
  · rw [tchS_wet, if_neg he, tchS_dye, if_neg (fun h => he ⟨h.1, h.2.1⟩), tchS_dye, if_neg (fun h => he ⟨h.1, h.2.1⟩), tchS_dye, if_neg (fun h => he ⟨h.1, h.2.1⟩)]
    refine ⟨c2, fun q hq => by rw [tchS_dye, if_neg (fun h => he ⟨h.1, h.2.1⟩)]; exact c3 q hq, ?_⟩
    rcases c4 with h | h
    · exact .inl ⟨tch_hasP.2 h.1, fun g => h.2 (tch_waxP.1 g)⟩
    · exact .inr h
theorem tchB_valid (hv : validS s) (hb : brushP b) (hh : hasP s x y) : brushP (tchB s b x y) := by
  have hw := leaveW_bd hv hb hh
  have hd := fun q hq => leaveD_bd hv hb hh q hq
  have d1 := hd 0 (by omega)
  have d2 := hd 1 (by omega)
  have d3 := hd 2 (by omega)
  obtain ⟨h1, h2, h3, h4⟩ := hb
  refine ⟨fun q hq => ?_, ?_, ?_, ?_⟩
  · rw [tchB_dye, if_pos hq]
    have := hd q hq
    have := h1 q hq
    omega
  · rw [tchB_dye, tchB_dye, tchB_dye, if_pos (by omega), if_pos (by omega), if_pos (by omega)]; omega
  · rw [tchB_same.2]; omega
  · rw [tchB_same.1]; exact h4
theorem tchB_ok (hk : b.Ok) (hv : validS s) (hb : brushP b) (hh : hasP s x y) : (tchB s b x y).Ok := by
  have h := tchB_valid hv hb hh
  refine ⟨fun q => ?_, ?_, ?_⟩
  · by_cases hq : q < 3
    · have := h.1 q hq; omega
    · rw [tchB_dye, if_neg hq]; exact hk.dye q
  · have := h.2.2.1; omega
  · have := h.2.2.2; omega
/-- A brush along the first cells of a path. -/
noncomputable def strk (s : SheetM) (b : BrushM) (N : List SpotM) : Nat → SheetM × BrushM
  | 0 => (s, b)
  | i + 1 => match N[i]? with
    | some p => (tchS (strk s b N i).1 (strk s b N i).2 p.x p.y, tchB (strk s b N i).1 (strk s b N i).2 p.x p.y)
    | none => strk s b N i
variable {N : List SpotM} {i : Nat} {p : SpotM}
theorem strk_zero : strk s b N 0 = (s, b) := rfl
theorem strk_succ (h : N[i]? = some p) : strk s b N (i + 1) = (tchS (strk s b N i).1 (strk s b N i).2 p.x p.y, tchB (strk s b N i).1 (strk s b N i).2 p.x p.y) := by rw [strk, h]
structure Stk (s : SheetM) (t : SheetM × BrushM) : Prop where
  ok : t.1.Ok
  bok : t.2.Ok
  val : validS t.1
  bval : brushP t.2
  has : ∀ x y, hasP t.1 x y ↔ hasP s x y
  wax : ∀ x y, waxP t.1 x y ↔ waxP s x y
theorem strk_inv (hs : s.Ok) (hk : b.Ok) (hv : validS s) (hb : brushP b) (hN : ∀ p ∈ N, hasP s p.x p.y) : Stk s (strk s b N i) := by
  induction i with
  | zero => exact ⟨hs, hk, hv, hb, fun _ _ => Iff.rfl, fun _ _ => Iff.rfl⟩
  | succ i ih =>
    rw [strk]
    split
    · rename_i p hp
      have hh := (ih.has p.x p.y).2 (hN p (List.mem_of_getElem? hp))
      exact ⟨tchS_ok ih.ok ih.val ih.bval hh, tchB_ok ih.bok ih.val ih.bval hh, tchS_valid ih.val ih.bval hh, tchB_valid ih.val ih.bval hh, fun x y => tch_hasP.trans (ih.has x y), fun x y => tch_waxP.trans (ih.wax x y)⟩
    · exact ih
abbrev loadM (b : BrushM) : Int := b.dye 0 + b.dye 1 + b.dye 2
theorem load_nn (h : brushP b) : 0 ≤ loadM b := by
  have h0 := h.1 0 (by omega)
  have h1 := h.1 1 (by omega)
  have h2 := h.1 2 (by omega)
  unfold loadM; omega
noncomputable def cudK (s : SheetM) (b : BrushM) (N : List SpotM) : Nat := (List.range N.length).findIdx fun i => decide (loadM (strk s b N i).2 = 0)
theorem cudK_le : cudK s b N ≤ N.length := by
  have := List.findIdx_le_length (p := fun i => decide (loadM (strk s b N i).2 = 0)) (xs := List.range N.length)
  simpa [cudK] using this
theorem cudK_hit (hk : i ≤ cudK s b N) (h : loadM (strk s b N i).2 = 0) : cudK s b N = i := by
  apply Classical.byContradiction
  intro hne
  have hlt : i < cudK s b N := by omega
  have := List.not_of_lt_findIdx (p := fun i => decide (loadM (strk s b N i).2 = 0)) (xs := List.range N.length) hlt
  rw [List.getElem_range] at this
  simp [h] at this
theorem cudK_miss (hk : i ≤ cudK s b N) (hi : i < N.length) (h : ¬ loadM (strk s b N i).2 = 0) : i + 1 ≤ cudK s b N := by
  apply Classical.byContradiction
  intro hne
  have he : cudK s b N = i := by omega
  have hl : (List.range N.length).findIdx (fun i => decide (loadM (strk s b N i).2 = 0)) < (List.range N.length).length := by
    show cudK s b N < _; simp; omega
  have := List.findIdx_getElem (w := hl)
  rw [List.getElem_range] at this
  have h2 : loadM (strk s b N (cudK s b N)).2 = 0 := of_decide_eq_true this
  rw [he] at h2
  exact h h2
noncomputable def alC (s : SheetM) (b : BrushM) (N : List SpotM) : Int := if ¬ (validS s ∧ brushP b) then 1 else if ¬ pathP s N then 2 else 0
theorem alC_cases (s : SheetM) (b : BrushM) (N : List SpotM) : (alC s b N = 0 ∧ validS s ∧ brushP b ∧ pathP s N) ∨ (alC s b N = 1 ∧ ¬ (validS s ∧ brushP b)) ∨ (alC s b N = 2 ∧ validS s ∧ brushP b ∧ ¬ pathP s N) := by
  unfold alC
  by_cases h : validS s ∧ brushP b
  · by_cases h2 : pathP s N
    · left; rw [if_neg (fun g => g h), if_neg (fun g => g h2)]; exact ⟨rfl, h.1, h.2, h2⟩
    · right; right; rw [if_neg (fun g => g h), if_pos h2]; exact ⟨rfl, h.1, h.2, h2⟩
  · right; left; rw [if_pos h]; exact ⟨rfl, h⟩
noncomputable def cudV (s : SheetM) (b : BrushM) (N : List SpotM) : AV := .tup [.int .i64 (if alC s b N = 0 then (cudK s b N : Int) else 0), .int .i64 (alC s b N)]
theorem cudV_ok (h : alC s b N = 0) : cudV s b N = .tup [.int .i64 (cudK s b N : Int), .int .i64 0] := by unfold cudV; rw [if_pos h, h]
theorem cudV_ne {c : Int} (h : alC s b N = c) (hc : c ≠ 0) : cudV s b N = .tup [.int .i64 0, .int .i64 c] := by unfold cudV; rw [h, if_neg hc]
end
end Ink
