/- Contracts of functions of the program, by the texts that it imports. No conditions. -/
import Derived.Test.YtlfhpibbmgjgnaaInkGi
import Derived.Test.YtlfhpibbmgjgnaaInkGg
import Derived.Test.YtlfhpibbmgjgnaaInkGd
import Derived.Test.YtlfhpibbmgjgnaaInkGh
import Derived.Test.YtlfhpibbmgjgnaaInkGb
import Derived.RangeFuncNested
import Derived.RangeFuncLeaves
import Derived.Lib.Builder
import Derived.Lib.Join
import Derived.Lib.UnsafeStr
import Derived.Lib.AppendStr
import Derived.Laws.Tables
set_option linter.unusedVariables false
set_option linter.unusedSimpArgs false
/- Writers of two blocks that look at a third one; what the program means: the least share. No conditions. -/
namespace Ink
open Go
theorem ACall.at3ww {P : Program} {f : FuncId} {args : List AV} {v : AV} {B B' C C' D : Blk} (h : ACall P [0, 1] f args [B, C, D] v [B', C', D]) (hB : noRef B = true) (hB' : noRef B' = true) (hC : noRef C = true) (hC' : noRef C' = true) (hD : noRef D = true) (hw : B.wr = true ∧ B'.wr = true) (hw2 : C.wr = true ∧ C'.wr = true) {H : Heap} {b c d : Nat} (hb : H[b]? = some B) (hc : H[c]? = some C) (hd : H[d]? = some D) (hnd : [b, c, d].Nodup) {args' : List AV} (hs : inScopes 3 args) (ha : rens (kap [b, c, d] 3 H.length) args = args') (hv : plain v = true) :
    ACall P [b, c] f args' H v ((H.set b B').set c C') := by
  subst ha
  have h2 := plain_ren (σ := kap [b, c, d] 3 H.length) (m := 0) hv
  have hne : (¬ b = c ∧ ¬ b = d) ∧ ¬ c = d := by simpa using hnd
  have := ACall.frame (Hm := [B, C, D]) (Hm' := [B', C', D]) (N := []) h rfl (H := H) [b, c, d] rfl hnd (fun i E hi => by
    match i with
    | 0 => simp at hi; subst hi; simp [renB_of hB, hb]
    | 1 => simp at hi; subst hi; simp [renB_of hC, hc]
    | 2 => simp at hi; subst hi; simp [renB_of hD, hd]
    | i + 3 => simp at hi) hs (fun E hE => by
      simp at hE
      rcases hE with rfl | rfl | rfl
      · exact sc_of hB _
      · exact sc_of hC _
      · exact sc_of hD _) (fun i hi => by
      simp at hi
      rcases hi with rfl | rfl
      · exact ⟨by simp, fun E hE => by simp at hE; subst hE; exact hw.1⟩
      · exact ⟨by simp, fun E hE => by simp at hE; subst hE; exact hw2.1⟩) (fun E hE => by
      simp at hE
      rcases hE with rfl | rfl | rfl
      · exact lv_of hB
      · exact lv_of hC
      · exact lv_of hD) (by simp [hw, hw2])
  simp only [setAll, renB_of hB', renB_of hC', renB_of hD, List.length_cons, List.length_nil, Nat.zero_add, List.map_nil, List.append_nil, List.map_cons] at this
  have e0 : kap [b, c, d] (1 + 1 + 1) H.length 0 = b := by simp [kap]
  have e1 : kap [b, c, d] (1 + 1 + 1) H.length 1 = c := by simp [kap]
  have e2 : kap [b, c, d] (1 + 1 + 1) H.length (1 + 1) = d := by simp [kap]
  rw [e0, e1, e2] at this
  rw [h2.1] at this
  rw [set_same (H := (H.set b B').set c C') (by rw [List.getElem?_set_ne hne.2, List.getElem?_set_ne hne.1.2]; exact hd)] at this
  simpa using this
def bSh (b : BrushM) (k : Int) : BrushM := { b with share := k }
noncomputable def lsOut (s : SheetM) (b : BrushM) (N : List SpotM) (k : Nat) : SheetM := (strk s (bSh b ((k : Int) + 1)) N N.length).1
noncomputable def litP (t : SheetM) (least : Int) (p : SpotM) : Bool := !decide (waxP t p.x p.y) && decide (darkM t p.x p.y < least)
noncomputable def lsB (s : SheetM) (b : BrushM) (N : List SpotM) (least : Int) (k : Nat) : Bool := !N.any (litP (lsOut s b N k) least)
noncomputable def lsK (s : SheetM) (b : BrushM) (N : List SpotM) (least : Int) : Nat := (List.range 16).findIdx (lsB s b N least)
section
variable {s : SheetM} {b : BrushM} {N : List SpotM} {least : Int} {k : Nat}
theorem lsK_le : lsK s b N least ≤ 16 := by
  have := List.findIdx_le_length (p := lsB s b N least) (xs := List.range 16)
  simpa [lsK] using this
theorem lsK_hit (hk : k ≤ lsK s b N least) (h16 : k < 16) (h : lsB s b N least k = true) : lsK s b N least = k := by
  apply Classical.byContradiction
  intro hne
  have hlt : k < lsK s b N least := by omega
  have := List.not_of_lt_findIdx (p := lsB s b N least) (xs := List.range 16) hlt
  rw [List.getElem_range] at this
  rw [h] at this
  cases this
theorem lsK_miss (hk : k ≤ lsK s b N least) (h16 : k < 16) (h : lsB s b N least k = false) : k + 1 ≤ lsK s b N least := by
  apply Classical.byContradiction
  intro hne
  have he : lsK s b N least = k := by omega
  have hl : (List.range 16).findIdx (lsB s b N least) < (List.range 16).length := by
    show lsK s b N least < _; simp; omega
  have := List.findIdx_getElem (w := hl)
  rw [List.getElem_range] at this
  have h2 : lsB s b N least (lsK s b N least) = true := this
  rw [he, h] at h2
  cases h2
theorem bSh_valid (hb : brushP b) (h16 : k < 16) : brushP (bSh b ((k : Int) + 1)) := ⟨hb.1, hb.2.1, hb.2.2.1, by show 1 ≤ (k : Int) + 1 ∧ (k : Int) + 1 ≤ 16; omega⟩
theorem bSh_ok (hb : b.Ok) (h16 : k < 16) : (bSh b ((k : Int) + 1)).Ok := ⟨hb.dye, hb.water, by show -128 ≤ (k : Int) + 1 ∧ (k : Int) + 1 < 128; omega⟩
def curB (b : BrushM) (k : Nat) : BrushM := if k = 0 then b else bSh b k
theorem curB_set : ({ curB b k with share := (k : Int) + 1 } : BrushM) = bSh b ((k : Int) + 1) := by unfold curB; split <;> rfl
theorem curB_succ : curB b (k + 1) = bSh b ((k : Int) + 1) := by unfold curB; rw [if_neg (by omega)]; congr 1
noncomputable def lsC (s : SheetM) (b : BrushM) (N : List SpotM) (least : Int) : Int := if alC s b N = 0 then (if 1 ≤ least ∧ least ≤ 3000 then 0 else 2) else alC s b N
noncomputable def lsV (s : SheetM) (b : BrushM) (N : List SpotM) (least : Int) : AV :=
  .tup [.int .i64 (if lsC s b N least = 0 ∧ lsK s b N least < 16 then (lsK s b N least : Int) + 1 else 0), .int .i64 (if lsC s b N least = 0 then (if lsK s b N least < 16 then 0 else 6) else lsC s b N least)]
theorem lsV_ok (h : lsC s b N least = 0) (hk : lsK s b N least = k) (h16 : k < 16) : lsV s b N least = .tup [.int .i64 ((k : Int) + 1), .int .i64 0] := by
  unfold lsV; rw [if_pos ⟨h, by omega⟩, if_pos h, if_pos (by omega), hk]
theorem lsV_no (h : lsC s b N least = 0) (hk : ¬ lsK s b N least < 16) : lsV s b N least = .tup [.int .i64 0, .int .i64 6] := by
  unfold lsV; rw [if_neg (fun g => hk g.2), if_pos h, if_neg hk]
theorem lsV_ne {c : Int} (h : lsC s b N least = c) (hc : c ≠ 0) : lsV s b N least = .tup [.int .i64 0, .int .i64 c] := by
  unfold lsV; rw [h, if_neg (fun g => hc g.1), if_neg hc]
end
end Ink
/- What the program means: rinsing till a sheet is light. No conditions. -/
namespace Ink
open Go
def lowP (s t : SheetM) (y x k : Nat) : Prop := t.dye y x k = 0 ∨ t.dye y x k < s.dye y x k
section
variable {s : SheetM} {share : Int} {st : RinM} {x y k : Nat}
theorem low_keep {c : Int} (hd : dyeOk s) (hs : 1 ≤ share ∧ share ≤ 15) (h : RinOk s c st) (hx : x < 8) (hy : y < 8) (hk : k < 3) {b a q : Nat} (hl : lowP s st.1 b a q) : lowP s (rinse1 share st x y k).1 b a q := by
  have h1 := h.dye y x k hy hx hk
  have h2 := hd y x k hy hx hk
  have hb := rinseBy_bd (d := st.1.dye y x k) (share := share) (by omega) hs
  unfold lowP at hl ⊢
  show u3 st.1.dye y x k _ b a q = 0 ∨ u3 st.1.dye y x k _ b a q < _
  rw [u3_at]
  split
  · rename_i e
    obtain ⟨rfl, rfl, rfl⟩ := e
    omega
  · exact hl
theorem low_new {c : Int} (hd : dyeOk s) (hs : 1 ≤ share ∧ share ≤ 15) (h : RinOk s c st) (hx : x < 8) (hy : y < 8) (hk : k < 3) : lowP s (rinse1 share st x y k).1 y x k := by
  have h1 := h.dye y x k hy hx hk
  have h2 := hd y x k hy hx hk
  have hb := rinseBy_bd (d := st.1.dye y x k) (share := share) (by omega) hs
  unfold lowP
  show u3 st.1.dye y x k _ y x k = 0 ∨ u3 st.1.dye y x k _ y x k < _
  rw [u3_at, if_pos ⟨rfl, rfl, rfl⟩]
  omega
theorem low_ink {c : Int} (hd : dyeOk s) (hs : 1 ≤ share ∧ share ≤ 15) (h : RinOk s c st) (hx : x < 8) (hy : y < 8) : ∀ k : Nat, k ≤ 3 → (∀ b a q, lowP s st.1 b a q → lowP s (rinseInk share st x y k).1 b a q) ∧ ∀ q < k, lowP s (rinseInk share st x y k).1 y x q := by
  intro k
  induction k with
  | zero => exact fun _ => ⟨fun _ _ _ h => h, fun q h => by omega⟩
  | succ k ih =>
    intro hk
    obtain ⟨i1, i2⟩ := ih (by omega)
    have hr := h.ink hd hs hx hy k (by omega)
    rw [rinseInk_succ]
    refine ⟨fun b a q hl => low_keep hd hs hr hx hy (by omega) (i1 b a q hl), fun q hq => ?_⟩
    by_cases e : q = k
    · subst e; exact low_new hd hs hr hx hy (by omega)
    · exact low_keep hd hs hr hx hy (by omega) (i2 q (by omega))
theorem low_to (hd : dyeOk s) (hs : 1 ≤ share ∧ share ≤ 15) (hm : small s) : ∀ n : Nat, n ≤ s.w.toNat * s.h.toNat → ∀ m < n, ∀ q < 3, lowP s (rinseTo s share n).1 (m / s.w.toNat) (m % s.w.toNat) q := by
  intro n
  induction n with
  | zero => intro _ m hm'; omega
  | succ n ih =>
    intro hn m hmn q hq
    have hc := cell_in (w := s.w.toNat) (h := s.h.toNat) (n := n) (by omega)
    have hr := RinOk.to (share := share) hd hs hm n (by omega)
    have hi := low_ink hd hs hr (x := n % s.w.toNat) (y := n / s.w.toNat) (by omega) (by omega) 3 (by omega)
    rw [rinseTo_succ]
    by_cases e : m = n
    · subst e; exact hi.2 q hq
    · exact hi.1 _ _ _ (ih (by omega) m (by omega) q hq)
end
def dkN (s : SheetM) : Int := (mostA s (darkG s)).2
theorem dkN_nn {s : SheetM} : 0 ≤ dkN s := mostTo_nn
theorem dkN_le {s : SheetM} (hd : dyeOk s) (hm : small s) : dkN s ≤ 3000 := by
  unfold dkN mostA
  have : ∀ n ≤ s.w.toNat * s.h.toNat, (mostTo (darkG s) s.w.toNat n).2 ≤ 3000 := by
    intro n
    induction n with
    | zero => intro _; rw [mostTo_zero]; decide
    | succ n ih =>
      intro hn
      have hc := cell_in (w := s.w.toNat) (h := s.h.toNat) (n := n) (by omega)
      have h0 := hd (n / s.w.toNat) (n % s.w.toNat) 0 (by omega) (by omega) (by omega)
      have h1 := hd (n / s.w.toNat) (n % s.w.toNat) 1 (by omega) (by omega) (by omega)
      have h2 := hd (n / s.w.toNat) (n % s.w.toNat) 2 (by omega) (by omega) (by omega)
      rw [mostTo]
      split
      · show darkG s _ _ ≤ 3000
        unfold darkG; omega
      · exact ih (by omega)
  exact this _ (Nat.le_refl _)
theorem dkN_down {s : SheetM} {share : Int} (hd : dyeOk s) (hs : 1 ≤ share ∧ share ≤ 15) (hm : small s) (h0 : 0 < dkN s) : dkN (rinseM s share).1 < dkN s := by
  have hr : RinOk s _ (rinseM s share) := RinOk.to (share := share) hd hs hm _ (Nat.le_refl _)
  have hl := low_to hd hs hm _ (Nat.le_refl _)
  by_cases h1 : 0 < dkN (rinseM s share).1
  · generalize hT : (rinseM s share).1 = t at *
    have ew : t.w = s.w := by have := hr.w; rw [hT] at this; exact this
    have eh : t.h = s.h := by have := hr.h; rw [hT] at this; exact this
    have hdy := hr.dye
    rw [hT] at hdy
    unfold dkN mostA at *
    rw [ew, eh] at h1 ⊢
    have hge := fun m (h : m < s.w.toNat * s.h.toNat) => most_ge (g := darkG s) (w := s.w.toNat) h
    have hcc := fun m (h : m < s.w.toNat * s.h.toNat) => cell_in (w := s.w.toNat) (h := s.h.toNat) (n := m) h
    have hw : s.w.toNat ≤ 8 := by omega
    have hh : s.h.toNat ≤ 8 := by omega
    generalize s.w.toNat * s.h.toNat = N at *
    obtain _ | N := N
    · rw [mostTo_zero] at h1; exact absurd h1 (by decide)
    · have hnn : ∀ k < N + 1, 0 ≤ darkG t (k / s.w.toNat) (k % s.w.toNat) := fun k hk => by
        have hc := hcc k hk
        have a0 := hdy (k / s.w.toNat) (k % s.w.toNat) 0 (by omega) (by omega) (by omega)
        have a1 := hdy (k / s.w.toNat) (k % s.w.toNat) 1 (by omega) (by omega) (by omega)
        have a2 := hdy (k / s.w.toNat) (k % s.w.toNat) 2 (by omega) (by omega) (by omega)
        unfold darkG; omega
      obtain ⟨e1, e2⟩ := mostTo_at (g := darkG t) (w := s.w.toNat) (n := N) hnn
      rw [e1] at h1 ⊢
      generalize (mostTo (darkG t) s.w.toNat (N + 1)).1 = m at *
      have hc := hcc m (by omega)
      have a0 := hdy (m / s.w.toNat) (m % s.w.toNat) 0 (by omega) (by omega) (by omega)
      have a1 := hdy (m / s.w.toNat) (m % s.w.toNat) 1 (by omega) (by omega) (by omega)
      have a2 := hdy (m / s.w.toNat) (m % s.w.toNat) 2 (by omega) (by omega) (by omega)
      have l0 := hl m (by omega) 0 (by omega)
      have l1 := hl m (by omega) 1 (by omega)
      have l2 := hl m (by omega) 2 (by omega)
      have g := hge m (by omega)
      unfold lowP at l0 l1 l2
      unfold darkG at h1 g ⊢
      omega
  · omega
def gsum (s : SheetM) (share : Int) : Nat → Nat → Int
  | 0, _ => 0
  | k + 1, q => gsum s share k q + bathO s share k q
noncomputable def ruK (s : SheetM) (share level : Int) : Nat := (List.range 3001).findIdx fun n => decide (dkN (rinIt s share n) ≤ level)
section
variable {s : SheetM} {share level c : Int} {i : Nat}
theorem gsum_zero : upTo (gsum s share 0) 0 3 = fun _ => 0 := by funext q; unfold upTo; split <;> rfl
theorem gsum_succ : gsum s share (i + 1) = fun q => gsum s share i q + bathO s share i q := rfl
theorem gsum_bd (hd : dyeOk s) (hm : small s) (hs : 1 ≤ share ∧ share ≤ 15) (q : Nat) : 0 ≤ gsum s share i q ∧ gsum s share i q ≤ 192000 * (i : Int) := by
  induction i with
  | zero => exact ⟨Int.le_refl _, Int.le_refl _⟩
  | succ i ih =>
    have := bathO_bd (k := i) hd hm hs q
    rw [gsum_succ]
    dsimp only
    omega
theorem dkN_it (hd : dyeOk s) (hm : small s) (hs : 1 ≤ share ∧ share ≤ 15) (h0 : 0 ≤ level) (h : ∀ j < i, level < dkN (rinIt s share j)) : dkN (rinIt s share i) + (i : Int) ≤ 3000 := by
  induction i with
  | zero => have := dkN_le hd hm; rw [rinIt_zero]; omega
  | succ i ih =>
    obtain ⟨h1, h2, _, _⟩ := rinIt_ok (n := i) hd hm hs
    have hi := ih fun j hj => h j (by omega)
    have hl := h i (by omega)
    have := dkN_down h1 hs h2 (by omega)
    rw [rinIt_succ]
    omega
theorem ruK_eq (hd : dyeOk s) (hm : small s) (hs : 1 ≤ share ∧ share ≤ 15) (h0 : 0 ≤ level) (h : ∀ j < i, level < dkN (rinIt s share j)) (hi : dkN (rinIt s share i) ≤ level) : ruK s share level = i := by
  have hb := dkN_it hd hm hs h0 h
  have hn := dkN_nn (s := rinIt s share i)
  unfold ruK
  rw [List.findIdx_eq (by simp; omega)]
  refine ⟨by simpa using hi, fun j hj => ?_⟩
  have := h j hj
  simpa using this
theorem rinM_sok (h : s.Ok) (hd : dyeOk s) (hm : small s) (hs : 1 ≤ share ∧ share ≤ 15) : (rinseM s share).1.Ok := by
  have hr : RinOk s _ (rinseM s share) := RinOk.to (share := share) hd hs hm _ (Nat.le_refl _)
  refine ⟨?_, ?_, fun i j => ?_, fun i j k => ?_, fun i => ?_⟩
  · rw [hr.w]; exact h.w
  · rw [hr.h]; exact h.h
  · rw [hr.wet]; exact h.wet i j
  · by_cases hb : i < 8 ∧ j < 8 ∧ k < 3
    · have a := hr.dye i j k hb.1 hb.2.1 hb.2.2
      have b := hd i j k hb.1 hb.2.1 hb.2.2
      omega
    · rw [hr.out i j k hb]; exact h.dye i j k
  · rw [hr.wax]; exact h.wax i
theorem rinIt_sok (h : s.Ok) (hd : dyeOk s) (hm : small s) (hs : 1 ≤ share ∧ share ≤ 15) : (rinIt s share i).Ok := by
  induction i with
  | zero => exact h
  | succ i ih =>
    obtain ⟨h1, h2, _, _⟩ := rinIt_ok (n := i) hd hm hs
    rw [rinIt_succ]
    exact rinM_sok ih h1 h2 hs
noncomputable def ruC (s : SheetM) (share level : Int) : Int := codeM s (decide (1 ≤ share ∧ share ≤ 15) && decide (0 ≤ level ∧ level ≤ 3000))
noncomputable def ruV (s : SheetM) (share level : Int) : AV :=
  .tup [.agg shSheet (sheetD (if ruC s share level = 0 then rinIt s share (ruK s share level) else zeroSheet)), .int .i64 (if ruC s share level = 0 then (ruK s share level : Int) else 0),
    .agg (.arr 3 (.int .i64)) (a1 .i64 (if ruC s share level = 0 then upTo (gsum s share (ruK s share level)) 0 3 else fun _ => 0)), .int .i64 (ruC s share level)]
theorem ruV_ok (e : ruC s share level = 0) (hk : ruK s share level = i) : ruV s share level = .tup [.agg shSheet (sheetD (rinIt s share i)), .int .i64 (i : Int), .agg (.arr 3 (.int .i64)) (a1 .i64 (upTo (gsum s share i) 0 3)), .int .i64 0] := by simp [ruV, e, hk]
theorem ruV_no (e : ruC s share level = c) (hc : c ≠ 0) : ruV s share level = .tup [.agg shSheet (sheetD zeroSheet), .int .i64 0, .agg (.arr 3 (.int .i64)) (a1 .i64 fun _ => 0), .int .i64 c] := by simp [ruV, e, hc]
end
end Ink
/- What the program means: pressing a fold. No conditions. -/
namespace Ink
open Go
set_option linter.unusedVariables false
theorem u2_comm {α : Type} {f : Nat → Nat → α} {a b a' b' : Nat} {v w : α} (h : ¬ (a = a' ∧ b = b')) : u2 (u2 f a b v) a' b' w = u2 (u2 f a' b' w) a b v := by
  funext i j
  rw [u2_at, u2_at, u2_at, u2_at]
  by_cases h1 : i = a ∧ j = b
  · by_cases h2 : i = a' ∧ j = b'
    · exact absurd ⟨h1.1.symm.trans h2.1, h1.2.symm.trans h2.2⟩ h
    · rw [if_neg h2, if_pos h1, if_pos h1]
  · by_cases h2 : i = a' ∧ j = b'
    · obtain ⟨rfl, rfl⟩ := h2
      simp only [h1, and_self, if_true, if_false]
    · simp only [h1, h2, if_false]
theorem u2_self {α : Type} {f : Nat → Nat → α} {a b : Nat} : u2 f a b (f a b) = f := by
  funext i j
  rw [u2_at]
  split
  · rename_i h; obtain ⟨rfl, rfl⟩ := h; rfl
  · rfl
theorem u3_self {α : Type} {f : Nat → Nat → Nat → α} {a b c : Nat} : u3 f a b c (f a b c) = f := by
  funext i j k
  rw [u3_at]
  split
  · rename_i h; obtain ⟨rfl, rfl, rfl⟩ := h; rfl
  · rfl
/-- How much goes over from a to b. -/
def goes (a b w : Int) : Int := if b < a then ((a - b) * w).tdiv 16 else -(((b - a) * w).tdiv 16)
theorem mul_bd {d w : Int} (hd : 0 ≤ d) (hw : 1 ≤ w ∧ w ≤ 8) : 0 ≤ d * w ∧ d * w ≤ d * 8 := ⟨Int.mul_nonneg hd (by omega), Int.mul_le_mul_of_nonneg_left hw.2 hd⟩
theorem part_bd {d w : Int} (hd : 0 ≤ d) (hw : 1 ≤ w ∧ w ≤ 8) : 0 ≤ (d * w).tdiv 16 ∧ (d * w).tdiv 16 ≤ d := by
  have := mul_bd hd hw
  rw [Int.tdiv_eq_ediv_of_nonneg (by omega)]
  omega
theorem goes_pos {a b w : Int} (h : b < a) (hw : 1 ≤ w ∧ w ≤ 8) : goes a b w = ((a - b) * w).tdiv 16 ∧ 0 ≤ goes a b w ∧ goes a b w ≤ a - b := by
  have := part_bd (d := a - b) (by omega) hw
  unfold goes; rw [if_pos h]; exact ⟨rfl, this⟩
theorem goes_neg {a b w : Int} (h : ¬ b < a) (hw : 1 ≤ w ∧ w ≤ 8) : goes a b w = -(((b - a) * w).tdiv 16) ∧ goes a b w ≤ 0 ∧ a - b ≤ goes a b w := by
  have := part_bd (d := b - a) (by omega) hw
  unfold goes; rw [if_neg h]; exact ⟨rfl, by omega, by omega⟩
theorem goes_bd {a b w c : Int} (hw : 1 ≤ w ∧ w ≤ 8) (ha : 0 ≤ a ∧ a ≤ c) (hb : 0 ≤ b ∧ b ≤ c) : (0 ≤ a - goes a b w ∧ a - goes a b w ≤ c) ∧ (0 ≤ b + goes a b w ∧ b + goes a b w ≤ c) ∧ -c ≤ goes a b w ∧ goes a b w ≤ c := by
  by_cases h : b < a
  · have := goes_pos h hw; omega
  · have := goes_neg h hw; omega
abbrev PrsM := SheetM × Int
noncomputable def prsD (s : SheetM) (p : PairM) (k : Nat) (w : Int) : Int :=
  if (0 < goes (s.dye p.ay.toNat p.ax.toNat k) (s.dye p.by'.toNat p.bx.toNat k) w ∧ s.wet p.ay.toNat p.ax.toNat = 0) ∨ (goes (s.dye p.ay.toNat p.ax.toNat k) (s.dye p.by'.toNat p.bx.toNat k) w < 0 ∧ s.wet p.by'.toNat p.bx.toNat = 0) then 0
  else goes (s.dye p.ay.toNat p.ax.toNat k) (s.dye p.by'.toNat p.bx.toNat k) w
def moveD (s : SheetM) (p : PairM) (k : Nat) (d : Int) : SheetM :=
  { s with dye := u3 (u3 s.dye p.ay.toNat p.ax.toNat k (s.dye p.ay.toNat p.ax.toNat k - d)) p.by'.toNat p.bx.toNat k (s.dye p.by'.toNat p.bx.toNat k + d) }
def moveW (s : SheetM) (p : PairM) (d : Int) : SheetM :=
  { s with wet := u2 (u2 s.wet p.ay.toNat p.ax.toNat (s.wet p.ay.toNat p.ax.toNat - d)) p.by'.toNat p.bx.toNat (s.wet p.by'.toNat p.bx.toNat + d) }
noncomputable def prs1 (w : Int) (st : PrsM) (p : PairM) (k : Nat) : PrsM := (moveD st.1 p k (prsD st.1 p k w), st.2 + sizeM (prsD st.1 p k w))
noncomputable def prsW (w : Int) (st : PrsM) (p : PairM) : PrsM := (moveW st.1 p (goes (st.1.wet p.ay.toNat p.ax.toNat) (st.1.wet p.by'.toNat p.bx.toNat) w), st.2)
noncomputable def prsInk (w : Int) (st : PrsM) (p : PairM) : Nat → PrsM
  | 0 => st
  | k + 1 => prs1 w (prsInk w st p k) p k
noncomputable def prsTo (w : Int) (s : SheetM) (l : List PairM) : Nat → PrsM
  | 0 => (s, 0)
  | i + 1 => match l[i]? with | some p => prsW w (prsInk w (prsTo w s l i) p 3) p | none => prsTo w s l i
theorem prsInk_zero {w st p} : prsInk w st p 0 = st := rfl
theorem prsInk_succ {w st p} {k : Nat} : prsInk w st p (k + 1) = prs1 w (prsInk w st p k) p k := rfl
theorem prsTo_zero {w s l} : prsTo w s l 0 = (s, 0) := rfl
theorem prsTo_succ {w : Int} {s : SheetM} {l : List PairM} {i : Nat} {p : PairM} (h : l[i]? = some p) : prsTo w s l (i + 1) = prsW w (prsInk w (prsTo w s l i) p 3) p := by rw [prsTo, h]
structure Prs (s t : SheetM) : Prop where
  ok : t.Ok
  dye : dyeOk t
  wet : wetOk t
  w : t.w = s.w
  h : t.h = s.h
theorem Prs.small {s t : SheetM} (h : Prs s t) (hm : small s) : small t := by
  have := h.w; have := h.h
  unfold Ink.small at *
  omega
section
variable {s t : SheetM} {p : PairM} {k : Nat} {w d : Int}
theorem prsD_bd (h : Prs s t) (h8 : in8 p.ax p.ay) (g8 : in8 p.bx p.by') (hk : k < 3) (hw : 1 ≤ w ∧ w ≤ 8) :
    (0 ≤ t.dye p.ay.toNat p.ax.toNat k - prsD t p k w ∧ t.dye p.ay.toNat p.ax.toNat k - prsD t p k w ≤ 1000) ∧ (0 ≤ t.dye p.by'.toNat p.bx.toNat k + prsD t p k w ∧ t.dye p.by'.toNat p.bx.toNat k + prsD t p k w ≤ 1000) ∧ -1000 ≤ prsD t p k w ∧ prsD t p k w ≤ 1000 := by
  have h1 := h.dye p.ay.toNat p.ax.toNat k (by omega) (by omega) hk
  have h2 := h.dye p.by'.toNat p.bx.toNat k (by omega) (by omega) hk
  have h3 := goes_bd hw h1 h2
  unfold prsD
  split
  · omega
  · omega
theorem moveD_ok (h : Prs s t) (h8 : in8 p.ax p.ay) (g8 : in8 p.bx p.by') (hk : k < 3)
    (hd : (0 ≤ t.dye p.ay.toNat p.ax.toNat k - d ∧ t.dye p.ay.toNat p.ax.toNat k - d ≤ 1000) ∧ (0 ≤ t.dye p.by'.toNat p.bx.toNat k + d ∧ t.dye p.by'.toNat p.bx.toNat k + d ≤ 1000)) : Prs s (moveD t p k d) := by
  refine ⟨⟨h.ok.w, h.ok.h, h.ok.wet, fun i j q => ?_, h.ok.wax⟩, fun y x q hy hx hq => ?_, h.wet, h.w, h.h⟩
  · show -32768 ≤ u3 _ _ _ _ _ i j q ∧ u3 _ _ _ _ _ i j q < 32768
    rw [u3_at, u3_at]
    split
    · omega
    · split
      · omega
      · exact h.ok.dye i j q
  · show 0 ≤ u3 _ _ _ _ _ y x q ∧ u3 _ _ _ _ _ y x q ≤ 1000
    rw [u3_at, u3_at]
    split
    · omega
    · split
      · omega
      · exact h.dye y x q hy hx hq
theorem moveW_ok (h : Prs s t) (h8 : in8 p.ax p.ay) (g8 : in8 p.bx p.by')
    (hd : (0 ≤ t.wet p.ay.toNat p.ax.toNat - d ∧ t.wet p.ay.toNat p.ax.toNat - d ≤ 200) ∧ (0 ≤ t.wet p.by'.toNat p.bx.toNat + d ∧ t.wet p.by'.toNat p.bx.toNat + d ≤ 200)) : Prs s (moveW t p d) := by
  refine ⟨⟨h.ok.w, h.ok.h, fun i j => ?_, h.ok.dye, h.ok.wax⟩, h.dye, fun y x hy hx => ?_, h.w, h.h⟩
  · show -32768 ≤ u2 _ _ _ _ i j ∧ u2 _ _ _ _ i j < 32768
    rw [u2_at, u2_at]
    split
    · omega
    · split
      · omega
      · exact h.ok.wet i j
  · show 0 ≤ u2 _ _ _ _ y x ∧ u2 _ _ _ _ y x ≤ 200
    rw [u2_at, u2_at]
    split
    · omega
    · split
      · omega
      · exact h.wet y x hy hx
theorem size_bd {d c : Int} (h : -c ≤ d ∧ d ≤ c) : 0 ≤ sizeM d ∧ sizeM d ≤ c := by unfold sizeM maxM; split <;> omega
end
structure PrsOk (s : SheetM) (c : Int) (st : PrsM) : Prop where
  ok : Prs s st.1
  n : 0 ≤ st.2 ∧ st.2 ≤ c
section
variable {s : SheetM} {p : PairM} {k : Nat} {w c : Int} {st : PrsM}
theorem prs1_ok (h : PrsOk s c st) (h8 : in8 p.ax p.ay) (g8 : in8 p.bx p.by') (hk : k < 3) (hw : 1 ≤ w ∧ w ≤ 8) : PrsOk s (c + 1000) (prs1 w st p k) := by
  have hb := prsD_bd h.ok h8 g8 hk hw
  have hn := h.n
  have hz := size_bd hb.2.2
  exact ⟨moveD_ok h.ok h8 g8 hk ⟨hb.1, hb.2.1⟩, by show 0 ≤ st.2 + _ ∧ st.2 + _ ≤ _; omega⟩
theorem prsInk_ok (h : PrsOk s c st) (h8 : in8 p.ax p.ay) (g8 : in8 p.bx p.by') (hw : 1 ≤ w ∧ w ≤ 8) : ∀ k : Nat, k ≤ 3 → PrsOk s (c + 1000 * (k : Int)) (prsInk w st p k) := by
  intro k
  induction k with
  | zero => intro _; rw [prsInk_zero]; simpa using h
  | succ k ih =>
    intro hk
    have := prs1_ok (ih (by omega)) h8 g8 (k := k) (by omega) hw
    rw [prsInk_succ]
    have e : c + 1000 * ((k + 1 : Nat) : Int) = c + 1000 * (k : Int) + 1000 := by omega
    rw [e]; exact this
theorem prsW_bd (h : Prs s st.1) (h8 : in8 p.ax p.ay) (g8 : in8 p.bx p.by') (hw : 1 ≤ w ∧ w ≤ 8) : (0 ≤ st.1.wet p.ay.toNat p.ax.toNat - goes (st.1.wet p.ay.toNat p.ax.toNat) (st.1.wet p.by'.toNat p.bx.toNat) w ∧ st.1.wet p.ay.toNat p.ax.toNat - goes (st.1.wet p.ay.toNat p.ax.toNat) (st.1.wet p.by'.toNat p.bx.toNat) w ≤ 200) ∧ (0 ≤ st.1.wet p.by'.toNat p.bx.toNat + goes (st.1.wet p.ay.toNat p.ax.toNat) (st.1.wet p.by'.toNat p.bx.toNat) w ∧ st.1.wet p.by'.toNat p.bx.toNat + goes (st.1.wet p.ay.toNat p.ax.toNat) (st.1.wet p.by'.toNat p.bx.toNat) w ≤ 200) ∧ -200 ≤ goes (st.1.wet p.ay.toNat p.ax.toNat) (st.1.wet p.by'.toNat p.bx.toNat) w ∧ goes (st.1.wet p.ay.toNat p.ax.toNat) (st.1.wet p.by'.toNat p.bx.toNat) w ≤ 200 := goes_bd hw (h.wet p.ay.toNat p.ax.toNat (by omega) (by omega)) (h.wet p.by'.toNat p.bx.toNat (by omega) (by omega))
theorem prsW_ok (h : PrsOk s c st) (h8 : in8 p.ax p.ay) (g8 : in8 p.bx p.by') (hw : 1 ≤ w ∧ w ≤ 8) : PrsOk s c (prsW w st p) := by
  have hb := prsW_bd h.ok h8 g8 hw
  exact ⟨moveW_ok h.ok h8 g8 ⟨hb.1, hb.2.1⟩, h.n⟩
end
theorem prsTo_ok {s t : SheetM} {f : FoldM} {w : Int} (h : Prs s t) (hm : small s) (hw : 1 ≤ w ∧ w ≤ 8) : ∀ i, i ≤ (pairsM t f).length → PrsOk s (3000 * (i : Int)) (prsTo w t (pairsM t f) i) := by
  intro i
  induction i with
  | zero => exact fun _ => ⟨h, by rw [prsTo_zero]; exact ⟨Int.le_refl _, by simp⟩⟩
  | succ i ih =>
    intro hi
    obtain ⟨p, hp, _, h8, g8⟩ := zed (s := t) (f := f) (h.small hm) (i := i) (by omega)
    rw [prsTo_succ hp]
    have := prsW_ok (prsInk_ok (ih (by omega)) h8 g8 hw 3 (by omega)) h8 g8 hw
    have e : (3000 : Int) * ((i + 1 : Nat) : Int) = 3000 * (i : Int) + 1000 * ((3 : Nat) : Int) := by omega
    rw [e]; exact this
noncomputable def pressM (s : SheetM) (f : FoldM) : PrsM := prsTo f.press s (pairsM s f) (pairsM s f).length
noncomputable def puIt (s : SheetM) (f : FoldM) : Nat → SheetM
  | 0 => s
  | n + 1 => (pressM (puIt s f n) f).1
theorem puIt_zero {s f} : puIt s f 0 = s := rfl
theorem puIt_succ {s f} {n : Nat} : puIt s f (n + 1) = (pressM (puIt s f n) f).1 := rfl
theorem pressM_ok {s t : SheetM} {f : FoldM} (h : Prs s t) (hm : small s) (hw : 1 ≤ f.press ∧ f.press ≤ 8) : Prs s (pressM t f).1 := (prsTo_ok (f := f) h hm hw _ (Nat.le_refl _)).ok
theorem puIt_ok {s : SheetM} {f : FoldM} (h : Prs s s) (hm : small s) (hw : 1 ≤ f.press ∧ f.press ≤ 8) {n : Nat} : Prs s (puIt s f n) := by
  induction n with
  | zero => exact h
  | succ n ih => rw [puIt_succ]; exact pressM_ok ih hm hw
theorem valid_prs {s : SheetM} (hs : s.Ok) (hv : validS s) : Prs s s := ⟨hs, valid_dye hv, valid_wet hv, rfl, rfl⟩
noncomputable def puB (s : SheetM) (f : FoldM) (most : Int) (n : Nat) : Bool := decide (offM (puIt s f n) f ≤ most)
noncomputable def puK (s : SheetM) (f : FoldM) (most : Int) : Nat := (List.range 31).findIdx (puB s f most)
noncomputable def puC (s : SheetM) (f : FoldM) (most : Int) : Int := askF s f (decide (0 ≤ most))
noncomputable def puV (s : SheetM) (f : FoldM) (most : Int) : AV :=
  .tup [.int .i64 (if puC s f most = 0 ∧ puK s f most < 31 then (puK s f most : Int) else 0), .int .i64 (if puC s f most = 0 then (if puK s f most < 31 then 0 else 6) else puC s f most)]
section
variable {s : SheetM} {f : FoldM} {most c : Int} {k : Nat}
theorem puK_le : puK s f most ≤ 31 := by
  have := List.findIdx_le_length (p := puB s f most) (xs := List.range 31)
  simpa [puK] using this
theorem puK_hit (hk : k ≤ puK s f most) (h31 : k < 31) (h : offM (puIt s f k) f ≤ most) : puK s f most = k := by
  apply Classical.byContradiction
  intro hne
  have hlt : k < puK s f most := by omega
  have := List.not_of_lt_findIdx (p := puB s f most) (xs := List.range 31) hlt
  rw [List.getElem_range] at this
  have h2 : puB s f most k = true := decide_eq_true h
  rw [h2] at this
  cases this
theorem puK_miss (hk : k ≤ puK s f most) (h31 : k < 31) (h : ¬ offM (puIt s f k) f ≤ most) : k + 1 ≤ puK s f most := by
  apply Classical.byContradiction
  intro hne
  have he : puK s f most = k := by omega
  have hl : (List.range 31).findIdx (puB s f most) < (List.range 31).length := by
    show puK s f most < _; simp; omega
  have := List.findIdx_getElem (w := hl)
  rw [List.getElem_range] at this
  have h2 : puB s f most (puK s f most) = true := this
  rw [he] at h2
  exact h (of_decide_eq_true h2)
theorem puV_ok (h : puC s f most = 0) (hk : puK s f most = k) (h31 : k < 31) : puV s f most = .tup [.int .i64 (k : Int), .int .i64 0] := by
  unfold puV; rw [if_pos ⟨h, by omega⟩, if_pos h, if_pos (by omega), hk]
theorem puV_none (h : puC s f most = 0) (hk : ¬ puK s f most < 31) : puV s f most = .tup [.int .i64 0, .int .i64 6] := by
  unfold puV; rw [if_neg (fun g => hk g.2), if_pos h, if_neg hk]
theorem puV_ne (h : puC s f most = c) (hc : c ≠ 0) : puV s f most = .tup [.int .i64 0, .int .i64 c] := by
  unfold puV; rw [h, if_neg (fun g => hc g.1), if_neg hc]
end
end Ink
/- What one passing over reads and writes. No conditions. -/
namespace Ink
open Go
set_option linter.unusedVariables false
theorem go_by {x y w : Int} (hyx : y ≤ x) (hy : 0 ≤ y) (hx : x ≤ 1000) (hw : 1 ≤ w ∧ w ≤ 8) :
    IntKind.i16.wrap (IntKind.i64.wrap ((IntKind.i64.wrap (IntKind.i64.wrap (IntKind.i16.wrap (x - y)) * IntKind.i64.wrap w)).tdiv 16)) = ((x - y) * w).tdiv 16 := by
  have h1 := part_bd (d := x - y) (by omega) hw
  have h2 := mul_bd (d := x - y) (by omega) hw
  rw [wrap_i16 (a := x - y) (by omega) (by omega), wrap_i64 (a := x - y) (by omega) (by omega), wrap_i64 (a := w) (by omega) (by omega), wrap_i64 (a := (x - y) * w) (by omega) (by omega)]
  rw [wrap_i64 (a := ((x - y) * w).tdiv 16) (by omega) (by omega), wrap_i16 (by omega) (by omega)]
theorem size_nn {d : Int} (h : 0 ≤ d) : sizeM d = d := by unfold sizeM maxM; split <;> omega
theorem size_np {d : Int} (h : 0 ≤ d) : sizeM (-d) = d := by unfold sizeM maxM; split <;> omega
section
variable {t : SheetM} {p : PairM} {k : Nat} {w d : Int}
theorem prsD_one (h : t.dye p.by'.toNat p.bx.toNat k < t.dye p.ay.toNat p.ax.toNat k) (hw : 1 ≤ w ∧ w ≤ 8) (ho : t.wet p.ay.toNat p.ax.toNat ≠ 0) : prsD t p k w = ((t.dye p.ay.toNat p.ax.toNat k - t.dye p.by'.toNat p.bx.toNat k) * w).tdiv 16 := by
  have hg : 0 ≤ goes (t.dye p.ay.toNat p.ax.toNat k) (t.dye p.by'.toNat p.bx.toNat k) w := (goes_pos h hw).2.1
  unfold prsD
  rw [if_neg (by rintro (⟨_, h2⟩ | ⟨h1, _⟩); exact ho h2; omega)]
  exact (goes_pos h hw).1
theorem prsD_one0 (h : t.dye p.by'.toNat p.bx.toNat k < t.dye p.ay.toNat p.ax.toNat k) (hw : 1 ≤ w ∧ w ≤ 8) (ho : t.wet p.ay.toNat p.ax.toNat = 0) : prsD t p k w = 0 := by
  have hg : 0 ≤ goes (t.dye p.ay.toNat p.ax.toNat k) (t.dye p.by'.toNat p.bx.toNat k) w := (goes_pos h hw).2.1
  unfold prsD
  split
  · rfl
  · rename_i hn
    by_cases h0 : 0 < goes (t.dye p.ay.toNat p.ax.toNat k) (t.dye p.by'.toNat p.bx.toNat k) w
    · exact absurd (Or.inl ⟨h0, ho⟩) hn
    · omega
theorem prsD_two (h : ¬ t.dye p.by'.toNat p.bx.toNat k < t.dye p.ay.toNat p.ax.toNat k) (hw : 1 ≤ w ∧ w ≤ 8) (ho : t.wet p.by'.toNat p.bx.toNat ≠ 0) : prsD t p k w = -(((t.dye p.by'.toNat p.bx.toNat k - t.dye p.ay.toNat p.ax.toNat k) * w).tdiv 16) := by
  have hg : goes (t.dye p.ay.toNat p.ax.toNat k) (t.dye p.by'.toNat p.bx.toNat k) w ≤ 0 := (goes_neg h hw).2.1
  unfold prsD
  rw [if_neg (by rintro (⟨h1, _⟩ | ⟨_, h2⟩); omega; exact ho h2)]
  exact (goes_neg h hw).1
theorem prsD_two0 (h : ¬ t.dye p.by'.toNat p.bx.toNat k < t.dye p.ay.toNat p.ax.toNat k) (hw : 1 ≤ w ∧ w ≤ 8) (ho : t.wet p.by'.toNat p.bx.toNat = 0) : prsD t p k w = 0 := by
  have hg : goes (t.dye p.ay.toNat p.ax.toNat k) (t.dye p.by'.toNat p.bx.toNat k) w ≤ 0 := (goes_neg h hw).2.1
  unfold prsD
  split
  · rfl
  · rename_i hn
    by_cases h0 : goes (t.dye p.ay.toNat p.ax.toNat k) (t.dye p.by'.toNat p.bx.toNat k) w < 0
    · exact absurd (Or.inr ⟨h0, ho⟩) hn
    · omega
theorem moveD_zero : moveD t p k 0 = t := by
  unfold moveD
  rw [Int.sub_zero, Int.add_zero, u3_self, u3_self]
theorem moveD_eq : moveD t p k d = { w := t.w, h := t.h, wet := t.wet, dye := u3 (u3 t.dye p.ay.toNat p.ax.toNat k (t.dye p.ay.toNat p.ax.toNat k - d)) p.by'.toNat p.bx.toNat k (t.dye p.by'.toNat p.bx.toNat k + d), wax := t.wax } := rfl
theorem moveD_swap (hne : ¬ (p.ax = p.bx ∧ p.ay = p.by')) (h8 : in8 p.ax p.ay) (g8 : in8 p.bx p.by') : moveD t p k (-d) = { w := t.w, h := t.h, wet := t.wet, dye := u3 (u3 t.dye p.by'.toNat p.bx.toNat k (t.dye p.by'.toNat p.bx.toNat k - d)) p.ay.toNat p.ax.toNat k (t.dye p.ay.toNat p.ax.toNat k + d), wax := t.wax } := by
  rw [moveD_eq, u3_comm (fun h => hne ⟨by omega, by omega⟩), Int.sub_neg, ← Int.sub_eq_add_neg]
theorem moveW_zero : moveW t p 0 = t := by
  unfold moveW
  rw [Int.sub_zero, Int.add_zero, u2_self, u2_self]
theorem moveW_eq : moveW t p d = { w := t.w, h := t.h, wet := u2 (u2 t.wet p.ay.toNat p.ax.toNat (t.wet p.ay.toNat p.ax.toNat - d)) p.by'.toNat p.bx.toNat (t.wet p.by'.toNat p.bx.toNat + d), dye := t.dye, wax := t.wax } := rfl
theorem moveW_swap (hne : ¬ (p.ax = p.bx ∧ p.ay = p.by')) (h8 : in8 p.ax p.ay) (g8 : in8 p.bx p.by') : moveW t p (-d) = { w := t.w, h := t.h, wet := u2 (u2 t.wet p.by'.toNat p.bx.toNat (t.wet p.by'.toNat p.bx.toNat - d)) p.ay.toNat p.ax.toNat (t.wet p.ay.toNat p.ax.toNat + d), dye := t.dye, wax := t.wax } := by
  rw [moveW_eq, u2_comm (fun h => hne ⟨by omega, by omega⟩), Int.sub_neg, ← Int.sub_eq_add_neg]
theorem u3_AB (hne : ¬ (p.ax = p.bx ∧ p.ay = p.by')) (h8 : in8 p.ax p.ay) (g8 : in8 p.bx p.by') {v : Int} {f : Nat → Nat → Nat → Int} : u3 f p.ay.toNat p.ax.toNat k v p.by'.toNat p.bx.toNat k = f p.by'.toNat p.bx.toNat k := by rw [u3_at, if_neg (fun h => hne ⟨by omega, by omega⟩)]
theorem u3_BA (hne : ¬ (p.ax = p.bx ∧ p.ay = p.by')) (h8 : in8 p.ax p.ay) (g8 : in8 p.bx p.by') {v : Int} {f : Nat → Nat → Nat → Int} : u3 f p.by'.toNat p.bx.toNat k v p.ay.toNat p.ax.toNat k = f p.ay.toNat p.ax.toNat k := by rw [u3_at, if_neg (fun h => hne ⟨by omega, by omega⟩)]
theorem u2_AB (hne : ¬ (p.ax = p.bx ∧ p.ay = p.by')) (h8 : in8 p.ax p.ay) (g8 : in8 p.bx p.by') {v : Int} {f : Nat → Nat → Int} : u2 f p.ay.toNat p.ax.toNat v p.by'.toNat p.bx.toNat = f p.by'.toNat p.bx.toNat := by rw [u2_at, if_neg (fun h => hne ⟨by omega, by omega⟩)]
theorem u2_BA (hne : ¬ (p.ax = p.bx ∧ p.ay = p.by')) (h8 : in8 p.ax p.ay) (g8 : in8 p.bx p.by') {v : Int} {f : Nat → Nat → Int} : u2 f p.by'.toNat p.bx.toNat v p.ay.toNat p.ax.toNat = f p.ay.toNat p.ax.toNat := by rw [u2_at, if_neg (fun h => hne ⟨by omega, by omega⟩)]
end
end Ink
/- Lists of sheets that come from outside, and lists of sheets that are filled. No conditions. -/
namespace Ink
open Go Go.ChangeShapes Go.WideShapes Go.RowKit
def valI : DV → Int
  | .int _ n => n
  | _ => 0
def nth : DV → Nat → DV
  | .arr f, i => f i
  | d, _ => d
theorem wfu8 {n : Int} (h : (Lit.int .u8 n).wf = true) : 0 ≤ n ∧ n < 256 := by
  simp [Lit.wf, IntKind.min, IntKind.max, IntKind.signed, IntKind.bits] at h; omega
theorem leaf_of {k : IntKind} {v : DV} (h : Has (.int k) v) (hw : Wf (.int k) v) : v = .int k (valI v) ∧ (Lit.int k (valI v)).wf = true := by
  match v, h, hw with
  | .int j n, h, hw => cases h; exact ⟨rfl, hw⟩
theorem arr_of {n : Nat} {e : Sh} {v : DV} (h : Has (.arr n e) v) (hw : Wf (.arr n e) v) : (∀ i, i < n → Has e (nth v i) ∧ Wf e (nth v i)) ∧ flat (.arr n e) v = (List.range n).flatMap fun i => flat e (nth v i) := by
  match v, h, hw with
  | .arr f, h, hw => exact ⟨fun i hi => ⟨h i hi, hw i hi⟩, rfl⟩
theorem flat_arr {n : Nat} {e : Sh} {f : Nat → DV} : flat (.arr n e) (.arr f) = (List.range n).flatMap fun i => flat e (f i) := rfl
theorem sheetX_of {v : DV} (h : Has shSheet v) (hw : Wf shSheet v) : ∃ s : SheetM, s.Ok ∧ flat shSheet v = flat shSheet (sheetD s) := by
  match v, h, hw with
  | .cons (.int _ a) (.cons (.int _ b) (.cons vw (.cons vd (.cons vx .unit)))), h, hw =>
    obtain ⟨rfl, rfl, h3, h4, h5, _⟩ := h
    obtain ⟨w1, w2, w3, w4, w5, _⟩ := hw
    obtain ⟨p3, q3⟩ := arr_of h3 w3
    obtain ⟨p4, q4⟩ := arr_of h4 w4
    obtain ⟨p5, q5⟩ := arr_of h5 w5
    have r3 := fun i (hi : i < 8) => arr_of (p3 i hi).1 (p3 i hi).2
    have r4 := fun i (hi : i < 8) => arr_of (p4 i hi).1 (p4 i hi).2
    have t4 := fun i (hi : i < 8) j (hj : j < 8) => arr_of ((r4 i hi).1 j hj).1 ((r4 i hi).1 j hj).2
    have l3 := fun i (hi : i < 8) j (hj : j < 8) => leaf_of ((r3 i hi).1 j hj).1 ((r3 i hi).1 j hj).2
    have l4 := fun i (hi : i < 8) j (hj : j < 8) k (hk : k < 3) => leaf_of ((t4 i hi j hj).1 k hk).1 ((t4 i hi j hj).1 k hk).2
    have l5 := fun i (hi : i < 8) => leaf_of (p5 i hi).1 (p5 i hi).2
    refine ⟨⟨a, b, fun i j => if i < 8 ∧ j < 8 then valI (nth (nth vw i) j) else 0, fun i j k => if i < 8 ∧ j < 8 ∧ k < 3 then valI (nth (nth (nth vd i) j) k) else 0, fun i => if i < 8 then valI (nth vx i) else 0⟩, ⟨wf8 w1, wf8 w2, fun i j => ?_, fun i j k => ?_, fun i => ?_⟩, ?_⟩
    · dsimp only
      split
      · rename_i hc; exact wf16 (l3 i hc.1 j hc.2).2
      · omega
    · dsimp only
      split
      · rename_i hc; exact wf16 (l4 i hc.1 j hc.2.1 k hc.2.2).2
      · omega
    · dsimp only
      split
      · rename_i hc; exact wfu8 (l5 i hc).2
      · omega
    · have f3 : flat (.arr 8 (.arr 8 (.int .i16))) vw = flat (.arr 8 (.arr 8 (.int .i16))) (a2 .i16 fun i j => if i < 8 ∧ j < 8 then valI (nth (nth vw i) j) else 0) := by
        rw [q3]
        unfold a2
        rw [flat_arr]
        refine flatMap_ext fun i hi => ?_
        rw [(r3 i hi).2]
        unfold a1
        rw [flat_arr]
        refine flatMap_ext fun j hj => ?_
        dsimp only
        rw [(l3 i hi j hj).1, if_pos ⟨hi, hj⟩]
        rfl
      have f4 : flat (.arr 8 (.arr 8 (.arr 3 (.int .i16)))) vd = flat (.arr 8 (.arr 8 (.arr 3 (.int .i16)))) (a3 .i16 fun i j k => if i < 8 ∧ j < 8 ∧ k < 3 then valI (nth (nth (nth vd i) j) k) else 0) := by
        rw [q4]
        unfold a3
        rw [flat_arr]
        refine flatMap_ext fun i hi => ?_
        rw [(r4 i hi).2]
        unfold a2
        rw [flat_arr]
        refine flatMap_ext fun j hj => ?_
        rw [(t4 i hi j hj).2]
        unfold a1
        rw [flat_arr]
        refine flatMap_ext fun k hk => ?_
        dsimp only
        rw [(l4 i hi j hj k hk).1, if_pos ⟨hi, hj, hk⟩]
        rfl
      have f5 : flat (.arr 8 (.int .u8)) vx = flat (.arr 8 (.int .u8)) (a1 .u8 fun i => if i < 8 then valI (nth vx i) else 0) := by
        rw [q5]
        unfold a1
        rw [flat_arr]
        refine flatMap_ext fun i hi => ?_
        dsimp only
        rw [(l5 i hi).1, if_pos hi]
        rfl
      show [Value.int .i8 a] ++ ([Value.int .i8 b] ++ (flat _ vw ++ (flat _ vd ++ (flat _ vx ++ [])))) = [Value.int .i8 a] ++ ([Value.int .i8 b] ++ (flat _ (a2 .i16 _) ++ (flat _ (a3 .i16 _) ++ (flat _ (a1 .u8 _) ++ []))))
      rw [f3, f4, f5]
/-! ### Lists of sheets -/
def fillS (N : List SheetM) (i : Nat) : List DV := (N.take i ++ List.replicate (N.length - i) zeroSheet).map sheetD
section
variable {N : List SheetM} {i : Nat}
theorem fillS_zero : fillS N 0 = List.replicate N.length (sheetD zeroSheet) := by unfold fillS; simp
theorem fillS_all : fillS N N.length = N.map sheetD := by unfold fillS; simp
theorem fillS_len (h : i ≤ N.length) : (fillS N i).length = N.length := by unfold fillS; simp; omega
theorem fillS_get (h : i < N.length) : (fillS N i)[i]? = some (sheetD zeroSheet) := by
  unfold fillS
  rw [List.getElem?_map, List.getElem?_append_right (by simp; omega), List.getElem?_replicate]
  rw [if_pos (by simp; omega)]
  rfl
theorem fillS_set (h : i < N.length) : (fillS N i).set i (sheetD N[i]) = fillS N (i + 1) := by
  unfold fillS
  rw [← List.map_set]
  congr 1
  rw [List.set_append_right _ _ (by simp; omega), List.take_succ_eq_append_getElem h, List.append_assoc]
  congr 1
  rw [show i - (N.take i).length = 0 by simp; omega, show N.length - i = (N.length - (i + 1)) + 1 by omega, List.replicate_succ]
  rfl
end
end Ink
/- A reader that is proved for a view of one value (a window of one) reads a value that lies anywhere in a block. No conditions. -/
namespace Ink
open Go
def freeA : AV → Bool
  | .int _ _ => true
  | .bool _ => true
  | .str _ => true
  | .agg _ _ => true
  | .slc (_ + 1) _ _ => true
  | _ => false
theorem freeA_Rv {a : AV} (h : freeA a = true) {ρ : Nat → Nat} {S S' : BSh} {T : List BSh} {w : World} {x : Value} (hr : Rv ρ (S :: T) w a x) : Rv ρ (S' :: T) w a x := by
  cases a with
  | slc b lo len =>
    cases b with
    | zero => simp [freeA] at h
    | succ b => exact hr
  | int _ _ => exact hr
  | bool _ => exact hr
  | str _ => exact hr
  | agg _ _ => exact hr
  | _ => simp [freeA] at h
theorem freeA_Rvs {S S' : BSh} {T : List BSh} {ρ : Nat → Nat} {w : World} : ∀ {l : List AV} {vs : List Value}, l.all freeA = true → Rvs ρ (S :: T) w l vs → Rvs ρ (S' :: T) w l vs
  | [], [], _, h => h
  | a :: l, v :: vs, hp, h => by
    simp only [List.all_cons, Bool.and_eq_true] at hp
    exact ⟨freeA_Rv hp.1 h.1, freeA_Rvs hp.2 h.2⟩
  | [], _ :: _, _, h => h.elim
  | _ :: _, [], _, h => h.elim
theorem noRef_RB {B : Blk} (h : noRef B = true) {ρ ρ' : Nat → Nat} {S S' : List BSh} {w w' : World} {o : Option Obj} (hr : RB ρ S w B o) : RB ρ' S' w' B o := by
  cases B with
  | ref _ => simp [noRef] at h
  | dead _ => simp [noRef] at h
  | mpb _ => exact hr
  | data _ _ => exact hr
  | seq _ _ _ => exact hr
  | win _ _ _ => exact hr
/-- Where in a block a value lies. -/
def Lies (B : Blk) (p : List Nat) (o : Nat) (σ : Sh) (x : DV) : Prop :=
  (B.sh).at? p = some (o, σ) ∧ noRef B = true ∧ ∀ ρ S w ob, RB ρ S w B ob → RB ρ S w (.win o σ [x]) ob
theorem Lies.data {σ : Sh} {x : DV} : Lies (.data σ x) [] 0 σ x := by
  refine ⟨by simp [Blk.sh, BSh.at?, Sh.at?], rfl, fun ρ S w ob h => ?_⟩
  obtain ⟨h1, T, h2⟩ := h
  refine ⟨fun y hy => ?_, _, T, _, h2, ?_⟩
  · simp at hy; subst hy; exact h1
  · simpa using LiesAt.self (flat σ x)
theorem Lies.seq {wr : Bool} {σ : Sh} {D : List DV} {i : Nat} {x : DV} (hx : D[i]? = some x) : Lies (.seq wr σ D) [i] (i * σ.size) σ x := by
  refine ⟨by simp [Blk.sh, BSh.at?, Sh.at?], rfl, fun ρ S w ob h => ?_⟩
  obtain ⟨h1, c, T, fz, h2, h3, _⟩ := h
  refine ⟨fun y hy => ?_, c, T, fz, h2, ?_⟩
  · simp at hy; subst hy; exact h1 _ (List.mem_of_getElem? hx)
  · simpa using (flatMap_at h1 hx).upto h3
theorem ACall.view {P : Program} {f : FuncId} {rest : List AV} {σ : Sh} {x : DV} {v : AV} {N : Heap} (h : ∀ o, ACall P [] f (.ptr 0 [0] σ :: rest) [.win o σ [x]] v (.win o σ [x] :: N)) (hrest : rest.all freeA = true) (hv : freeA v = true) (hN : noRefs N = true)
    {B : Blk} {p : List Nat} {o : Nat} (hB : Lies B p o σ x) : ACall P [] f (.ptr 0 p σ :: rest) [B] v (B :: N) := by
  refine ⟨(h 0).1, fun ρ w vs hR hA => ?_⟩
  obtain ⟨hat, hnr, hwin⟩ := hB
  cases vs with
  | nil => exact hA.elim
  | cons y ys =>
    obtain ⟨⟨s, o', hs, ho, hy⟩, hys⟩ := hA
    have hs' : s = B.sh := by
      have : (shs [B])[0]? = some B.sh := rfl
      rw [this] at hs; cases hs; rfl
    subst hs'
    rw [hat] at ho
    cases ho
    have hb0 : RB ρ (shs [B]) w B w.heap[ρ 0]? := hR.blk 0 B rfl
    have hR' : Rel ρ [.win o σ [x]] w := by
      refine ⟨fun i C hi => ?_, fun i j C D hi hj hne _ _ => ?_⟩
      · cases i with
        | zero =>
          simp at hi
          subst hi
          exact noRef_RB (B := .win o σ [x]) rfl (hwin _ _ _ _ hb0)
        | succ i => simp at hi
      · have := get_lt hi
        have := get_lt hj
        simp at *
        omega
    have hA' : Rvs ρ (shs [.win o σ [x]]) w (.ptr 0 [0] σ :: rest) (y :: ys) :=
      ⟨⟨.win o σ, o, rfl, by simp [BSh.at?, Sh.at?], hy⟩, freeA_Rvs hrest hys⟩
    refine ((h o).2 ρ w (y :: ys) hR' hA').mono fun e w' hq => ?_
    obtain ⟨r, ρ', rfl, inv, hr⟩ := hq
    have hsz : ρ 0 < w.heap.size := by
      rcases hw : w.heap[ρ 0]? with _ | ob
      · rw [hw] at hb0
        have := hwin _ _ _ _ hb0
        obtain ⟨_, c, T, fz, h2, _⟩ := this
        cases h2
      · exact (Array.getElem?_eq_some_iff.1 hw).1
    have hpre : ρ' 0 = ρ 0 := inv.pre 0 (by simp [shs])
    have hold : w'.heap[ρ 0]? = w.heap[ρ 0]? := inv.old (ρ 0) trivial hsz fun i hi => by simp at hi
    have hnew : ∀ j, j < N.length → w.heap.size ≤ ρ' (j + 1) := fun j hj => inv.new (j + 1) (by simp [shs]) (by simpa using hj) trivial
    refine ⟨r, ρ', rfl, ⟨⟨fun i C hi => ?_, fun i j C D hi hj hne hC hD => ?_⟩, inv.os, inv.tape, inv.out, inv.size, fun b _ hb _ => inv.old b trivial hb fun i hi => by simp at hi, inv.sz, fun i hi => inv.pre i (by simpa [shs] using hi), fun i h1 h2 _ => inv.new i (by simpa [shs] using h1) (by simpa using h2) trivial, ⟨shs N, rfl⟩⟩, ?_⟩
    · cases i with
      | zero =>
        simp at hi
        subst hi
        rw [hpre, hold]
        exact noRef_RB hnr hb0
      | succ i =>
        have hi' : N[i]? = some C := by simpa using hi
        have := inv.rel.blk (i + 1) C (by simpa using hi)
        exact noRef_RB (List.all_eq_true.1 hN _ (List.mem_of_getElem? hi')) this
    · cases i with
      | zero =>
        cases j with
        | zero => exact absurd rfl hne
        | succ j =>
          have := hnew j (get_lt (show N[j]? = some D by simpa using hj))
          rw [hpre]; omega
      | succ i =>
        cases j with
        | zero =>
          have := hnew i (get_lt (show N[i]? = some C by simpa using hi))
          rw [hpre]; omega
        | succ j => exact inv.rel.sep (i + 1) (j + 1) C D (by simpa using hi) (by simpa using hj) hne hC hD
    · exact freeA_Rv hv hr
/-- A reader without new blocks, in any heap. -/
theorem ACall.viewAt {P : Program} {f : FuncId} {rest : List AV} {σ : Sh} {x : DV} {v : AV} (h : ∀ o, ACall P [] f (.ptr 0 [0] σ :: rest) [.win o σ [x]] v [.win o σ [x]]) (hrest : rest.all freeA = true) (hrp : plains rest = true) (hv : freeA v = true) (hvp : plain v = true)
    {H : Heap} {b : Nat} {B : Blk} {p : List Nat} {o : Nat} (hb : H[b]? = some B) (hB : Lies B p o σ x) : ACall P [] f (.ptr b p σ :: rest) H v H := by
  refine (ACall.view (N := []) h hrest hv rfl hB).at1 hB.2.1 hb ?_ ?_ hvp
  · exact ⟨by simp [inScope], (plains_ren (σ := id) hrp).2⟩
  · show (ren _ _ :: rens _ _) = _
    rw [(plains_ren (m := 0) hrp).1]
    simp [ren, kap]
/-- A reader that makes one list, in any heap. -/
theorem ACall.viewNew {P : Program} {f : FuncId} {σ : Sh} {x : DV} {n : Nat} {e : Sh} {D : List DV} (h : ∀ o, ACall P [] f [.ptr 0 [0] σ] [.win o σ [x]] (.slc 1 0 n) [.win o σ [x], .seq true e D])
    {H : Heap} {b : Nat} {B : Blk} {p : List Nat} {o : Nat} (hb : H[b]? = some B) (hB : Lies B p o σ x) : ACall P [] f [.ptr b p σ] H (.slc H.length 0 n) (H ++ [.seq true e D]) := by
  have hr : ∀ κ, renB κ B = B := fun κ => by have := hB.2.1; cases B <;> first | rfl | simp [noRef] at this
  have hl : B.lv = true := by have := hB.2.1; cases B <;> first | rfl | simp [noRef] at this
  have hsc : inScopeB 1 B := by have := hB.2.1; cases B <;> first | trivial | simp [noRef] at this
  have := ACall.frame1 (ACall.view (N := [.seq true e D]) h rfl rfl rfl hB) hb hr hr (by simp [inScopes, inScope]) hsc (by simp) (Or.inl rfl) hl rfl
  simpa [rens, ren, kap, renB, set_same hb] using this
end Ink
/- What the program means: stacks. No conditions. -/
namespace Ink
open Go
def hdS (L : List SheetM) : SheetM := L.headD zeroSheet
def sameW (L : List SheetM) (s : SheetM) : Prop := s.w = (hdS L).w ∧ s.h = (hdS L).h
instance {L s} : Decidable (sameW L s) := by unfold sameW; infer_instance
noncomputable def badS (L : List SheetM) (s : SheetM) : Bool := !decide (validS s) || !decide (sameW L s)
def stackP (L : List SheetM) : Prop := L.length ≤ 6 ∧ ∀ s ∈ L, validS s ∧ sameW L s
noncomputable instance {L} : Decidable (stackP L) := Classical.propDecidable _
section
variable {L : List SheetM} {i : Nat} {s : SheetM}
theorem badS_iff : badS L s = false ↔ validS s ∧ sameW L s := by
  unfold badS
  rw [Bool.or_eq_false_iff, Bool.not_eq_false', Bool.not_eq_false', decide_eq_true_eq, decide_eq_true_eq]
theorem hd_get (h : 0 < L.length) : L[0]? = some (hdS L) := by
  cases L with
  | nil => simp at h
  | cons a l => rfl
theorem stack_any : L.any (badS L) = false ↔ ∀ s ∈ L, validS s ∧ sameW L s := by
  rw [List.any_eq_false]
  constructor
  · intro h s hs
    exact badS_iff.1 (by have := h s hs; simpa using this)
  · intro h s hs
    rw [badS_iff.2 (h s hs)]
    decide
theorem stack_ok (h : L.length ≤ 6) (ha : L.any (badS L) = false) : stackP L := ⟨h, stack_any.1 ha⟩
theorem stack_no (ha : L.any (badS L) = true) : ¬ stackP L := fun h => by
  have := stack_any.2 h.2
  rw [ha] at this
  cases this
theorem stack_big (h : ¬ L.length ≤ 6) : ¬ stackP L := fun g => h g.1
theorem stack_at (h : stackP L) (hi : i < L.length) : validS L[i] ∧ sameW L L[i] := h.2 _ (List.getElem_mem hi)
end
noncomputable def stC (L : List SheetM) (r : Bool) : Int := if ¬ stackP L then 1 else if r = true then 0 else 2
theorem stC_cases (L : List SheetM) (r : Bool) : (stC L r = 0 ∧ stackP L ∧ r = true) ∨ (stC L r = 1 ∧ ¬ stackP L) ∨ (stC L r = 2 ∧ stackP L ∧ r = false) := by
  unfold stC
  by_cases h : stackP L
  · cases r <;> simp [h]
  · simp [h]
/-! Dyes and water of a stack -/
def sumsM (s : SheetM) (k : Nat) : Int := sumAll fun y x => s.dye y x k
def dyeOf (L : List SheetM) : Nat → Nat → Int
  | 0, _ => 0
  | i + 1, k => dyeOf L i k + sumsM (L.getD i zeroSheet) k
theorem dyeOf_zero {L} : upTo (dyeOf L 0) 0 3 = fun _ => 0 := by funext q; unfold upTo; split <;> rfl
theorem dyeOf_succ {L : List SheetM} {i : Nat} (h : i < L.length) : dyeOf L (i + 1) = fun k => dyeOf L i k + sumsM L[i] k := by
  funext k
  rw [dyeOf, List.getD_eq_getElem?_getD, List.getElem?_eq_getElem h]; rfl
theorem sums_bd {s : SheetM} (hs : s.Ok) (k : Nat) : -2097152 ≤ sumsM s k ∧ sumsM s k ≤ 2097152 := by
  unfold sumsM sumAll
  dsimp only
  have := sumTo_bd (f := fun y => sumTo (fun x => s.dye y x k) 8) (n := 8) (c := 262144) (by omega) (by omega) (fun y _ => by
    have := sumTo_bd (f := fun x => s.dye y x k) (n := 8) (c := 32768) (by omega) (by omega) (fun x _ => by have := hs.dye y x k; omega)
    omega)
  omega
theorem dyeOf_bd {L : List SheetM} (hs : ∀ s ∈ L, s.Ok) {i : Nat} (hi : i ≤ L.length) (k : Nat) : -2097152 * (i : Int) ≤ dyeOf L i k ∧ dyeOf L i k ≤ 2097152 * (i : Int) := by
  induction i with
  | zero => exact ⟨Int.le_refl _, Int.le_refl _⟩
  | succ i ih =>
    have h1 := ih (by omega)
    have h2 := sums_bd (hs _ (List.getElem_mem (show i < L.length by omega))) k
    rw [dyeOf_succ (by omega)]
    dsimp only
    omega
theorem sums_cells {s : SheetM} (hv : validS s) : upTo (fun k => sumCells s (fun y x => s.dye y x k) (s.w.toNat * s.h.toNat)) 0 3 = upTo (sumsM s) 0 3 := by
  funext k
  unfold upTo
  split
  · rename_i hk
    exact sumCells_all (g := fun y x => s.dye y x k) (valid_small hv) fun y hy x hx hn => (valid_out hv hx hy hn).2 k hk
  · rfl
noncomputable def dyeV (L : List SheetM) : AV := .tup [.agg (.arr 3 (.int .i64)) (a1 .i64 (if stC L true = 0 then upTo (dyeOf L L.length) 0 3 else fun _ => 0)), .int .i64 (stC L true)]
theorem dyeV_ok {L : List SheetM} (h : stC L true = 0) : dyeV L = .tup [.agg (.arr 3 (.int .i64)) (a1 .i64 (upTo (dyeOf L L.length) 0 3)), .int .i64 0] := by unfold dyeV; rw [if_pos h, h]
theorem dyeV_no {L : List SheetM} (h : stC L true = 1) : dyeV L = .tup [.agg (.arr 3 (.int .i64)) (a1 .i64 fun _ => 0), .int .i64 1] := by unfold dyeV; rw [h, if_neg (by decide)]
theorem nS_all {N : List SheetM} (h : ∀ s ∈ N, s.Ok) : ∀ s ∈ N.map nS, s.Ok := fun s hs => by
  obtain ⟨t, ht, rfl⟩ := List.mem_map.1 hs
  exact nS_Ok (h t ht)
theorem nS_len {N : List SheetM} {c : Nat} (h : N.length ≤ c) : (N.map nS).length ≤ c := by rw [List.length_map]; exact h
theorem nil_all : ∀ s ∈ ([] : List SheetM), s.Ok := fun s h => by simp at h
end Ink
/- What the program means: drying of stacks. No conditions. -/
namespace Ink
open Go
set_option linter.unusedVariables false
def cellW (s : SheetM) (n : Nat) : Int := s.wet (n / s.w.toNat) (n % s.w.toNat)
def dyTo (b : Int) (s : SheetM) : Nat → SheetM × Int
  | 0 => (s, 0)
  | n + 1 => ({ (dyTo b s n).1 with wet := u2 (dyTo b s n).1.wet (n / s.w.toNat) (n % s.w.toNat) ((dyTo b s n).1.wet (n / s.w.toNat) (n % s.w.toNat) - minM b ((dyTo b s n).1.wet (n / s.w.toNat) (n % s.w.toNat))) },
      (dyTo b s n).2 + minM b ((dyTo b s n).1.wet (n / s.w.toNat) (n % s.w.toNat)))
abbrev nCells (s : SheetM) : Nat := s.w.toNat * s.h.toNat
def watT (s : SheetM) : Int := sumCells s s.wet (nCells s)
section
variable {s t : SheetM} {b : Int} {n m N : Nat}
theorem dyTo_zero : dyTo b s 0 = (s, 0) := rfl
theorem dyTo_succ : dyTo b s (n + 1) = ({ (dyTo b s n).1 with wet := u2 (dyTo b s n).1.wet (n / s.w.toNat) (n % s.w.toNat) ((dyTo b s n).1.wet (n / s.w.toNat) (n % s.w.toNat) - minM b ((dyTo b s n).1.wet (n / s.w.toNat) (n % s.w.toNat))) },
      (dyTo b s n).2 + minM b ((dyTo b s n).1.wet (n / s.w.toNat) (n % s.w.toNat))) := rfl
theorem dyTo_same : (dyTo b s n).1.w = s.w ∧ (dyTo b s n).1.h = s.h ∧ (dyTo b s n).1.dye = s.dye ∧ (dyTo b s n).1.wax = s.wax := by
  induction n with
  | zero => exact ⟨rfl, rfl, rfl, rfl⟩
  | succ n ih => exact ih
theorem minM_bd {a c : Int} (ha : 0 ≤ a) (hc : 0 ≤ c ∧ c ≤ 200) : 0 ≤ minM a c ∧ minM a c ≤ c := by unfold minM; split <;> omega
theorem sumTo_u2 {f : Nat → Nat → Int} {w : Nat} {v : Int} (h : n < N) : sumTo (fun m => u2 f (n / w) (n % w) v (m / w) (m % w)) N = sumTo (fun m => f (m / w) (m % w)) N + (v - f (n / w) (n % w)) := by
  induction N with
  | zero => omega
  | succ N ih =>
    rw [sumTo_succ, sumTo_succ]
    by_cases e : n = N
    · subst e
      have h0 : sumTo (fun m => u2 f (n / w) (n % w) v (m / w) (m % w)) n = sumTo (fun m => f (m / w) (m % w)) n := sumTo_congr fun k hk => by
        rw [u2_at, if_neg (fun g => div_mod_ne hk ⟨g.1.symm, g.2.symm⟩)]
      rw [h0, u2_at, if_pos ⟨rfl, rfl⟩]; omega
    · rw [ih (by omega), u2_at, if_neg (div_mod_ne (by omega))]; omega
end
structure Dry (s t : SheetM) : Prop where
  ok : t.Ok
  wet : wetOk t
  w : t.w = s.w
  h : t.h = s.h
  out : ∀ y < 8, ∀ x < 8, ¬ (x < s.w.toNat ∧ y < s.h.toNat) → t.wet y x = 0
theorem valid_dry {s : SheetM} (hs : s.Ok) (hv : validS s) : Dry s s := ⟨hs, valid_wet hv, rfl, rfl, fun y hy x hx hn => (valid_out hv hx hy hn).1⟩
section
variable {s t : SheetM} {b : Int} {n m N : Nat}
theorem Dry.small (h : Dry s t) (hm : small s) : small t := by
  have := h.w; have := h.h
  unfold Ink.small at *
  omega
theorem dyTo_ok (h : Dry s t) (hm : small s) (hb : 0 ≤ b) : ∀ n, n ≤ nCells t → Dry s (dyTo b t n).1 ∧ (0 ≤ (dyTo b t n).2 ∧ (dyTo b t n).2 ≤ 200 * (n : Int)) ∧ sumTo (fun m => (dyTo b t n).1.wet (m / t.w.toNat) (m % t.w.toNat)) (nCells t) + (dyTo b t n).2 = watT t := by
  intro n
  induction n with
  | zero => exact fun _ => ⟨h, ⟨Int.le_refl _, Int.le_refl _⟩, by rw [dyTo_zero]; exact Int.add_zero _⟩
  | succ n ih =>
    intro hn
    obtain ⟨i1, i2, i3⟩ := ih (by omega)
    have hw := h.w
    have hh := h.h
    have hms : t.w.toNat ≤ 8 ∧ t.h.toNat ≤ 8 := by unfold Ink.small at hm; omega
    have hc := cell_in (w := t.w.toNat) (h := t.h.toNat) (n := n) hn
    have hcb := i1.wet (n / t.w.toNat) (n % t.w.toNat) (by omega) (by omega)
    have hmb := minM_bd hb hcb
    rw [dyTo_succ]
    generalize dyTo b t n = st at *
    obtain ⟨u, c⟩ := st
    refine ⟨⟨⟨i1.ok.w, i1.ok.h, fun i j => ?_, i1.ok.dye, i1.ok.wax⟩, fun y x hy hx => ?_, i1.w, i1.h, fun y hy x hx hn => ?_⟩, ?_, ?_⟩
    · show -32768 ≤ u2 _ _ _ _ i j ∧ u2 _ _ _ _ i j < 32768
      rw [u2_at]
      split
      · omega
      · exact i1.ok.wet i j
    · show 0 ≤ u2 _ _ _ _ y x ∧ u2 _ _ _ _ y x ≤ 200
      rw [u2_at]
      split
      · omega
      · exact i1.wet y x hy hx
    · show u2 _ _ _ _ y x = 0
      rw [u2_at, if_neg]
      · exact i1.out y hy x hx hn
      · rintro ⟨rfl, rfl⟩
        exact hn ⟨by omega, by omega⟩
    · show 0 ≤ c + _ ∧ c + _ ≤ 200 * ((n + 1 : Nat) : Int)
      have i2' : 0 ≤ c ∧ c ≤ 200 * (n : Int) := i2
      dsimp only at hcb hmb ⊢
      omega
    · dsimp only at i3 hmb ⊢
      rw [sumTo_u2 (by omega)]
      omega
theorem wat_all (h : Dry s t) (hm : small s) : watT t = sumAll t.wet := sumCells_all (h.small hm) fun y hy x hx hn => h.out y hy x hx (by rw [h.w, h.h] at hn; exact hn)
theorem wat_nn (h : Dry s t) (hm : small s) : 0 ≤ watT t ∧ watT t ≤ 12800 := by
  have hw := h.w
  have hh := h.h
  have hms : t.w.toNat ≤ 8 ∧ t.h.toNat ≤ 8 := by unfold Ink.small at hm; omega
  have hwh : nCells t ≤ 8 * 8 := Nat.mul_le_mul hms.1 hms.2
  have := sumTo_le (f := fun m => t.wet (m / t.w.toNat) (m % t.w.toNat)) (n := nCells t) (a := 0) (b := 200) (fun m hm' => by
    have hc := cell_in (w := t.w.toNat) (h := t.h.toNat) (n := m) hm'
    exact h.wet _ _ (by omega) (by omega))
  unfold watT sumCells
  omega
end
/-! Stacks -/
def dOne (rate : Int) (j : Nat) (s : SheetM) : SheetM × Int := dyTo (rate.tdiv ((j : Int) + 1)) s (nCells s)
def dryL (rate : Int) (L : List SheetM) : Nat → List SheetM × Int
  | 0 => (L, 0)
  | i + 1 => ((dryL rate L i).1.set i (dOne rate i (L.getD i zeroSheet)).1, (dryL rate L i).2 + (dOne rate i (L.getD i zeroSheet)).2)
def watL (L : List SheetM) : Nat → Int
  | 0 => 0
  | i + 1 => watL L i + watT (L.getD i zeroSheet)
section
variable {L M : List SheetM} {rate : Int} {i j : Nat} {s : SheetM}
theorem getD_of (h : i < L.length) : L.getD i zeroSheet = L[i] := by rw [List.getD_eq_getElem?_getD, List.getElem?_eq_getElem h]; rfl
theorem dryL_zero : dryL rate L 0 = (L, 0) := rfl
theorem dryL_succ (h : i < L.length) : dryL rate L (i + 1) = ((dryL rate L i).1.set i (dOne rate i L[i]).1, (dryL rate L i).2 + (dOne rate i L[i]).2) := by rw [dryL, getD_of h]
theorem dryL_len : (dryL rate L i).1.length = L.length := by
  induction i with
  | zero => rfl
  | succ i ih => rw [dryL]; simpa using ih
theorem dryL_later (h : i ≤ j) : (dryL rate L i).1[j]? = L[j]? := by
  induction i with
  | zero => rfl
  | succ i ih =>
    rw [dryL]
    show (List.set _ _ _)[j]? = _
    rw [List.getElem?_set_ne (by omega)]
    exact ih (by omega)
theorem quo_nn (h : 0 ≤ rate) : 0 ≤ rate.tdiv ((j : Int) + 1) ∧ rate.tdiv ((j : Int) + 1) ≤ rate := by
  rw [Int.tdiv_eq_ediv_of_nonneg h]
  exact ⟨Int.ediv_nonneg h (by omega), Int.ediv_le_self _ h⟩
end
/-- What stays so, sheet by sheet. -/
structure DryL (L M : List SheetM) : Prop where
  len : M.length = L.length
  at_ : ∀ (i : Nat) (h : i < M.length) (h' : i < L.length), Dry L[i] M[i]
theorem stack_dry {L : List SheetM} (hs : ∀ s ∈ L, s.Ok) (h : stackP L) : DryL L L := ⟨rfl, fun i h1 h2 => valid_dry (hs _ (List.getElem_mem h2)) (h.2 _ (List.getElem_mem h2)).1⟩
theorem stack_small {L : List SheetM} (h : stackP L) {i : Nat} (hi : i < L.length) : small L[i] := valid_small (h.2 _ (List.getElem_mem hi)).1
section
variable {L M : List SheetM} {rate : Int} {i j : Nat} {s : SheetM}
theorem DryL.set (h : DryL L M) (hi : i < L.length) (hs : Dry L[i] s) : DryL L (M.set i s) := by
  refine ⟨by simpa using h.len, fun j h1 h2 => ?_⟩
  rw [List.getElem_set]
  split
  · rename_i e; subst e; exact hs
  · exact h.at_ j (by simpa using h1) h2
theorem dOne_ok {r : SheetM} (hm : small r) (h : Dry r s) (hr : 0 ≤ rate) : Dry r (dOne rate j s).1 ∧ (0 ≤ (dOne rate j s).2 ∧ (dOne rate j s).2 ≤ 12800) ∧ watT (dOne rate j s).1 + (dOne rate j s).2 = watT s := by
  have h1 := dyTo_ok (b := rate.tdiv ((j : Int) + 1)) h hm (quo_nn hr).1 (nCells s) (Nat.le_refl _)
  obtain ⟨e1, e2, _, _⟩ := dyTo_same (b := rate.tdiv ((j : Int) + 1)) (s := s) (n := nCells s)
  have hw := h.w
  have hh := h.h
  have hms : s.w.toNat ≤ 8 ∧ s.h.toNat ≤ 8 := by unfold Ink.small at hm; omega
  have hwh : nCells s ≤ 8 * 8 := Nat.mul_le_mul hms.1 hms.2
  refine ⟨h1.1, ⟨h1.2.1.1, ?_⟩, ?_⟩
  · have := h1.2.1.2
    unfold dOne
    omega
  · have := h1.2.2
    unfold dOne
    rw [← this]
    unfold watT sumCells nCells
    rw [e1, e2]
theorem watL_set (hi : i < M.length) : ∀ n, n ≤ M.length → watL (M.set i s) n = watL M n + (if i < n then watT s - watT M[i] else 0) := by
  intro n
  induction n with
  | zero => intro _; rfl
  | succ n ih =>
    intro hn
    rw [watL, watL, ih (by omega), getD_of (show n < (M.set i s).length by rw [List.length_set]; omega), getD_of (show n < M.length by omega), List.getElem_set]
    by_cases e : i = n
    · subst e; rw [if_pos rfl, if_neg (by omega), if_pos (by omega)]; omega
    · rw [if_neg e]
      by_cases h2 : i < n
      · rw [if_pos h2, if_pos (by omega)]; omega
      · rw [if_neg h2, if_neg (by omega)]; omega
theorem dryL_ok (hL : ∀ (i : Nat) (h : i < L.length), small L[i]) (h : DryL L M) (hr : 0 ≤ rate) : ∀ i, i ≤ M.length → DryL L (dryL rate M i).1 ∧ (0 ≤ (dryL rate M i).2 ∧ (dryL rate M i).2 ≤ 12800 * (i : Int)) ∧ watL (dryL rate M i).1 M.length + (dryL rate M i).2 = watL M M.length := by
  intro i
  induction i with
  | zero => exact fun _ => ⟨h, ⟨Int.le_refl _, Int.le_refl _⟩, by rw [dryL_zero]; exact Int.add_zero _⟩
  | succ i ih =>
    intro hi
    obtain ⟨i1, i2, i3⟩ := ih (by omega)
    have hil : i < L.length := by have := h.len; omega
    have ho := dOne_ok (j := i) (hL i hil) (h.at_ i hi hil) hr
    have hlen := dryL_len (rate := rate) (L := M) (i := i)
    have hlt := dryL_later (rate := rate) (L := M) (i := i) (j := i) (Nat.le_refl _)
    rw [List.getElem?_eq_getElem hi, List.getElem?_eq_getElem (show i < (dryL rate M i).1.length by omega)] at hlt
    have hlt' := Option.some.inj hlt
    rw [dryL_succ hi]
    refine ⟨i1.set hil ho.1, ?_, ?_⟩
    · dsimp only
      have := ho.2.1
      omega
    · dsimp only
      rw [watL_set (by omega) _ (by omega), if_pos (by omega), hlt']
      have := ho.2.2
      omega
theorem watL_bd (hL : ∀ (i : Nat) (h : i < L.length), small L[i]) (h : DryL L M) : ∀ n, n ≤ M.length → 0 ≤ watL M n ∧ watL M n ≤ 12800 * (n : Int) := by
  intro n
  induction n with
  | zero => exact fun _ => ⟨Int.le_refl _, Int.le_refl _⟩
  | succ n ih =>
    intro hn
    have h1 := ih (by omega)
    have hil : n < L.length := by have := h.len; omega
    have h2 := wat_nn (h.at_ n hn hil) (hL n hil)
    rw [watL, getD_of hn]
    omega
theorem watL_any (hL : ∀ (i : Nat) (h : i < L.length), small L[i]) (h : DryL L M) : (M.any fun s => decide (0 < watT s)) = decide (watL M M.length ≠ 0) := by
  have key : ∀ n, n ≤ M.length → (watL M n ≠ 0 ↔ ∃ j, ∃ h : j < M.length, j < n ∧ 0 < watT M[j]) := by
    intro n
    induction n with
    | zero => intro _; simp [watL]
    | succ n ih =>
      intro hn
      have hil : n < L.length := by have := h.len; omega
      have h1 := watL_bd hL h n (by omega)
      have h2 := wat_nn (h.at_ n hn hil) (hL n hil)
      have h3 := ih (by omega)
      rw [watL, getD_of hn]
      constructor
      · intro hne
        by_cases hz : watL M n = 0
        · exact ⟨n, hn, by omega, by omega⟩
        · obtain ⟨j, hj, h4, h5⟩ := h3.1 hz
          exact ⟨j, hj, by omega, h5⟩
      · rintro ⟨j, hj, h4, h5⟩
        by_cases e : j = n
        · subst e; omega
        · have := h3.2 ⟨j, hj, by omega, h5⟩
          omega
  rw [Bool.eq_iff_iff, List.any_eq_true, decide_eq_true_eq, key _ (Nat.le_refl _)]
  constructor
  · rintro ⟨s, hs, hw⟩
    obtain ⟨j, hj, rfl⟩ := List.getElem_of_mem hs
    exact ⟨j, hj, hj, of_decide_eq_true hw⟩
  · rintro ⟨j, hj, _, hw⟩
    exact ⟨_, List.getElem_mem hj, decide_eq_true hw⟩
end
def dIt (rate : Int) (L : List SheetM) : Nat → List SheetM
  | 0 => L
  | k + 1 => (dryL rate (dIt rate L k) L.length).1
def dGone (rate : Int) (L : List SheetM) (k : Nat) : Int := (dryL rate (dIt rate L k) L.length).2
def dStop (rate : Int) (L : List SheetM) (k : Nat) : Bool := decide (watL (dIt rate L k) L.length = 0) || decide (dGone rate L k = 0)
def dtK (rate : Int) (L : List SheetM) : Nat := (List.range 76801).findIdx (dStop rate L)
noncomputable def dtC (rate : Int) (L : List SheetM) : Int := stC L (decide (1 ≤ rate ∧ rate ≤ 200))
noncomputable def dtV (rate : Int) (L : List SheetM) : AV :=
  .tup [.int .i64 (if dtC rate L = 0 ∧ watL (dIt rate L (dtK rate L)) L.length = 0 then (dtK rate L : Int) else 0), .int .i64 (if dtC rate L = 0 then (if watL (dIt rate L (dtK rate L)) L.length = 0 then 0 else 6) else dtC rate L)]
section
variable {L : List SheetM} {rate c : Int} {k : Nat}
theorem dIt_zero : dIt rate L 0 = L := rfl
theorem dIt_succ : dIt rate L (k + 1) = (dryL rate (dIt rate L k) L.length).1 := rfl
theorem dIt_len : (dIt rate L k).length = L.length := by
  induction k with
  | zero => rfl
  | succ k ih => rw [dIt_succ, dryL_len, ih]
theorem dIt_ok (hs : ∀ s ∈ L, s.Ok) (h : stackP L) (hr : 0 ≤ rate) : DryL L (dIt rate L k) := by
  induction k with
  | zero => exact stack_dry hs h
  | succ k ih =>
    rw [dIt_succ]
    exact (dryL_ok (fun i hi => stack_small h hi) ih hr L.length (by rw [dIt_len]; exact Nat.le_refl _)).1
theorem dIt_bd (hs : ∀ s ∈ L, s.Ok) (h : stackP L) (hr : 0 ≤ rate) (hj : ∀ j < k, dStop rate L j = false) : watL (dIt rate L k) L.length + (k : Int) ≤ 76800 := by
  induction k with
  | zero =>
    have := watL_bd (fun i hi => stack_small h hi) (stack_dry hs h) L.length (Nat.le_refl _)
    have h6 := h.1
    rw [dIt_zero]
    omega
  | succ k ih =>
    have h1 := ih fun j hj' => hj j (by omega)
    have h2 := dryL_ok (fun i hi => stack_small h hi) (dIt_ok (k := k) hs h hr) hr L.length (by rw [dIt_len]; exact Nat.le_refl _)
    have h3 := hj k (by omega)
    unfold dStop dGone at h3
    rw [Bool.or_eq_false_iff] at h3
    have h4 := of_decide_eq_false h3.2
    rw [dIt_len] at h2
    rw [dIt_succ]
    omega
theorem dtK_eq (hs : ∀ s ∈ L, s.Ok) (h : stackP L) (hr : 0 ≤ rate) (hj : ∀ j < k, dStop rate L j = false) (hk : dStop rate L k = true) : dtK rate L = k := by
  have hb := dIt_bd hs h hr hj
  have hn := watL_bd (fun i hi => stack_small h hi) (dIt_ok (k := k) hs h hr) L.length (by rw [dIt_len]; exact Nat.le_refl _)
  unfold dtK
  rw [List.findIdx_eq (by simp; omega)]
  refine ⟨by simpa using hk, fun j hj' => ?_⟩
  have := hj j hj'
  simpa using this
theorem dtV_ok (e : dtC rate L = 0) (hk : dtK rate L = k) (hw : watL (dIt rate L k) L.length = 0) : dtV rate L = .tup [.int .i64 (k : Int), .int .i64 0] := by
  unfold dtV; rw [hk, if_pos ⟨e, hw⟩, if_pos e, if_pos hw]
theorem dtV_none (e : dtC rate L = 0) (hk : dtK rate L = k) (hw : ¬ watL (dIt rate L k) L.length = 0) : dtV rate L = .tup [.int .i64 0, .int .i64 6] := by
  unfold dtV; rw [hk, if_neg (fun g => hw g.2), if_pos e, if_neg hw]
theorem dtV_no (e : dtC rate L = c) (hc : c ≠ 0) : dtV rate L = .tup [.int .i64 0, .int .i64 c] := by
  unfold dtV; rw [e, if_neg (fun g => hc g.1), if_neg hc]
theorem set_map {X : List SheetM} {i : Nat} {u u' : SheetM} : ((X.set i u).map sheetD).set i (sheetD u') = (X.set i u').map sheetD := by rw [← List.map_set, List.set_set]
theorem setEl_get {X : List SheetM} {i : Nat} {u : SheetM} (h : i < X.length) : ((X.set i u).map sheetD)[i]? = some (sheetD u) := by
  rw [List.getElem?_map, List.getElem?_set_self h]; rfl
theorem set_same_el {X : List SheetM} {i : Nat} {u : SheetM} (h : X[i]? = some u) : X.set i u = X := by
  apply List.ext_getElem?
  intro j
  by_cases e : i = j
  · subst e
    rw [List.getElem?_set_self (List.getElem?_eq_some_iff.1 h).1, h]
  · rw [List.getElem?_set_ne e]
end
end Ink
/- What the laws do with stacks: marks that are set and looked at. No conditions. -/
namespace Ink
open Go
def mkWax (k : Int) (s : SheetM) : Nat → SheetM
  | 0 => s
  | j + 1 => { mkWax k s j with wax := u1 (mkWax k s j).wax j (IntKind.u8.wrap (k + j)) }
def mkHd (k : Int) (s : SheetM) : SheetM := { s with w := IntKind.i8.wrap k, h := IntKind.i8.wrap (k + 1) }
def mkS (k : Int) (s : SheetM) : SheetM := mkWax (k + 2) (mkHd k s) 8
def markTo (L : List SheetM) (k : Int) : Nat → List SheetM
  | 0 => L
  | i + 1 => (markTo L k i).set i (mkS (k + 10 * (i : Int)) (L.getD i zeroSheet))
section
variable {L : List SheetM} {k : Int} {s : SheetM} {i j n : Nat}
theorem mkWax_zero : mkWax k s 0 = s := rfl
theorem mkWax_succ : mkWax k s (j + 1) = { mkWax k s j with wax := u1 (mkWax k s j).wax j (IntKind.u8.wrap (k + j)) } := rfl
theorem mkWax_wh : (mkWax k s j).w = s.w ∧ (mkWax k s j).h = s.h := by
  induction j with
  | zero => exact ⟨rfl, rfl⟩
  | succ j ih => exact ih
theorem mkWax_at (h : i < j) : (mkWax k s j).wax i = IntKind.u8.wrap (k + i) := by
  induction j with
  | zero => omega
  | succ j ih =>
    rw [mkWax_succ]
    dsimp only
    rw [u1_at]
    by_cases e : i = j
    · subst e; rw [if_pos rfl]
    · rw [if_neg e]; exact ih (by omega)
theorem mkS_w : (mkS k s).w = IntKind.i8.wrap k := mkWax_wh.1
theorem mkS_h : (mkS k s).h = IntKind.i8.wrap (k + 1) := mkWax_wh.2
theorem mkS_wax (h : j < 8) : (mkS k s).wax j = IntKind.u8.wrap (k + 2 + j) := mkWax_at h
theorem markTo_zero : markTo L k 0 = L := rfl
theorem markTo_len : (markTo L k i).length = L.length := by
  induction i with
  | zero => rfl
  | succ i ih => rw [markTo]; simpa using ih
theorem markTo_later (h : i ≤ j) : (markTo L k i)[j]? = L[j]? := by
  induction i with
  | zero => rfl
  | succ i ih =>
    rw [markTo, List.getElem?_set_ne (by omega)]
    exact ih (by omega)
theorem markTo_succ (h : i < L.length) : markTo L k (i + 1) = (markTo L k i).set i (mkS (k + 10 * (i : Int)) L[i]) := by rw [markTo, getD_of h]
theorem markTo_at : ∀ n, n ≤ L.length → ∀ i < n, ∃ s, (markTo L k n)[i]? = some (mkS (k + 10 * (i : Int)) s) := by
  intro n
  induction n with
  | zero => intro _ i h; omega
  | succ n ih =>
    intro hn i hi
    rw [markTo_succ hn]
    by_cases e : i = n
    · subst e
      exact ⟨_, List.getElem?_set_self (by rw [markTo_len]; exact hn)⟩
    · rw [List.getElem?_set_ne (fun g => e g.symm)]
      exact ih (by omega) i (by omega)
end
end Ink
/- Lists of numbers: what a stack's sheets are reached by, and marks. No conditions. -/
namespace Ink
open Go
abbrev shI : Sh := .int .i64
def intD (x : Int) : DV := .int .i64 x
def rbTo (L : List SheetM) (q : Nat) : Nat → List Int
  | 0 => []
  | i + 1 => if 0 < sumsM (L.getD i zeroSheet) q then rbTo L q i ++ [(i : Int)] else rbTo L q i
def markI (X : List Int) (k : Int) (i : Nat) : List Int := (List.range i).map (fun j : Nat => k + (j : Int)) ++ X.drop i
section
variable {L : List SheetM} {X : List Int} {q i j : Nat} {k : Int}
theorem rbTo_zero : rbTo L q 0 = [] := rfl
theorem rbTo_yes (h : i < L.length) (hp : 0 < sumsM L[i] q) : rbTo L q (i + 1) = rbTo L q i ++ [(i : Int)] := by rw [rbTo, getD_of h, if_pos hp]
theorem rbTo_no (h : i < L.length) (hp : ¬ 0 < sumsM L[i] q) : rbTo L q (i + 1) = rbTo L q i := by rw [rbTo, getD_of h, if_neg hp]
theorem rbTo_len : (rbTo L q i).length ≤ i := by
  induction i with
  | zero => exact Nat.le_refl _
  | succ i ih =>
    rw [rbTo]
    split
    · simp; omega
    · omega
theorem intD_take : (X.map intD).take X.length = X.map intD := by
  have : (X.map intD).length = X.length := List.length_map intD
  rw [← this, List.take_length]
theorem intD_app : (X ++ [k]).map intD = X.map intD ++ [DV.int .i64 k] := by rw [List.map_append]; rfl
theorem markI_zero : markI X k 0 = X := by unfold markI; simp
theorem markI_len (h : i ≤ X.length) : (markI X k i).length = X.length := by unfold markI; simp; omega
theorem markI_all : markI X k X.length = (List.range X.length).map (fun j : Nat => k + (j : Int)) := by unfold markI; simp
theorem markI_at (h : i < X.length) : (markI X k i)[i]? = X[i]? := by
  unfold markI
  rw [List.getElem?_append_right (by simp), List.getElem?_drop]
  simp
theorem markI_set (h : i < X.length) : (markI X k i).set i (k + (i : Int)) = markI X k (i + 1) := by
  unfold markI
  rw [List.set_append_right _ _ (by simp), List.drop_eq_getElem_cons h]
  simp only [List.length_map, List.length_range, Nat.sub_self, List.set_cons_zero]
  rw [List.range_succ, List.map_append, List.append_assoc]
  rfl
theorem markI_get (h : j < X.length) : (markI X k X.length)[j]? = some (k + (j : Int)) := by
  rw [markI_all, List.getElem?_map, List.getElem?_range h]; rfl
end
end Ink
/- A sheet taken out of a list. No conditions. -/
namespace Ink
open Go
theorem ACall.resW {P : Program} {W : List Nat} {f : FuncId} {args : List AV} {H H' : Heap} {v v' : AV} (h : ACall P W f args H v H') (hv : ∀ ρ S w x, Rv ρ S w v x → Rv ρ S w v' x) : ACall P W f args H v' H' :=
  ⟨h.1, fun ρ w vs a b => (h.2 ρ w vs a b).mono fun e w' hq => by
    obtain ⟨x, ρ', h1, h2, h3⟩ := hq
    exact ⟨x, ρ', h1, h2, hv _ _ _ _ h3⟩⟩
def outL (L : List SheetM) (i : Nat) : List SheetM := L.take i ++ L.drop (i + 1)
section
variable {L : List SheetM} {i : Nat}
theorem outL_len (h : i < L.length) : (outL L i).length = L.length - 1 := by unfold outL; simp; omega
theorem outL_D : (outL L i).map sheetD = (L.map sheetD).take i ++ (L.map sheetD).drop (i + 1) := by unfold outL; rw [List.map_append, List.map_take, List.map_drop]
theorem out_in (h : i < L.length) : (L.map sheetD).take i ++ ((L.map sheetD).drop (i + 1)).take (L.length - (i + 1)) ++ (L.map sheetD).drop (i + (L.length - (i + 1))) = (outL L i).map sheetD ++ (L.map sheetD).drop (L.length - 1) := by
  have hl : (L.map sheetD).length = L.length := List.length_map sheetD
  have ht : ((L.map sheetD).drop (i + 1)).take (L.length - (i + 1)) = (L.map sheetD).drop (i + 1) := List.take_of_length_le (by rw [List.length_drop, hl]; exact Nat.le_refl _)
  rw [outL_D, ht, show i + (L.length - (i + 1)) = L.length - 1 by omega]
theorem out_clear (h : i < L.length) {z : DV} : ((outL L i).map sheetD ++ (L.map sheetD).drop (L.length - 1)).take (L.length - 1) ++ List.replicate 1 z ++ ((outL L i).map sheetD ++ (L.map sheetD).drop (L.length - 1)).drop (L.length - 1 + 1) = (outL L i).map sheetD ++ [z] := by
  have hl : ((outL L i).map sheetD).length = L.length - 1 := by rw [List.length_map]; exact outL_len h
  rw [← hl, List.take_left, List.drop_append, List.drop_of_length_le (by omega)]
  have : ((L.map sheetD).drop ((outL L i).map sheetD).length).drop (((outL L i).map sheetD).length + 1 - ((outL L i).map sheetD).length) = [] := by
    apply List.drop_of_length_le
    rw [List.length_drop, List.length_map, hl]
    omega
  rw [this]
  simp
theorem out_app (h : i < L.length) : List.take (i - 0) (List.take 0 [] ++ List.take (i - 0) (List.drop 0 (L.map sheetD))) ++ List.take (L.length - (i + 1)) (List.drop (i + 1) (L.map sheetD)) = (outL L i).map sheetD := by
  have hl : (L.map sheetD).length = L.length := List.length_map sheetD
  have ht : ((L.map sheetD).drop (i + 1)).take (L.length - (i + 1)) = (L.map sheetD).drop (i + 1) := List.take_of_length_le (by rw [List.length_drop, hl]; exact Nat.le_refl _)
  rw [outL_D, ht, List.take_zero, List.nil_append, List.drop_zero, Nat.sub_zero, List.take_take, Nat.min_self]
end
end Ink
/- Code within a round of a range over a function; what a call keeps of what it does not know. No conditions. -/
namespace Ink
open Go

def noDefer (o : Oper) : Bool := match o.op with | .defer _ => false | _ => true
def plainOps (ops : Array Oper) : Bool := ops.toList.all noDefer
theorem plainOps_spec {ops : Array Oper} (h : plainOps ops = true) {i : Nat} {o : Oper} (ho : ops[i]? = some o) : ∀ c, o.op ≠ .defer c := by
  intro c hc
  have := List.all_eq_true.1 h o (by rw [← Array.getElem?_toList] at ho; exact List.mem_of_getElem? ho)
  simp [noDefer, hc] at this

/-- The widest fence, in a round or in none. -/
def RF (r : Option Nat) : Fence := { Fence.wide with round := r }

theorem rows_in {r : Option Nat} {n : Nat} {P : Program} {row : String} {args : Array Value} {w : World} {R : Value → World → Prop} (h : Rows P row args w R) : RowsIn (RF r) n P row args w R :=
  fun c cs _ => let ⟨v, w', hR, hs⟩ := h c cs; ⟨v, w', hR, (stepsIn_wide.2 hs : StepsIn (Machine.fenced P Fence.wide) P _ _)⟩
theorem calls_in {r : Option Nat} {n : Nat} {P : Program} {f : FuncId} {args : Array Value} {w : World} {R : Ending → World → Prop} (h : Calls P f args w R) : CallsIn (RF r) n P f args w R :=
  (callsIn_wide.2 h : CallsIn Fence.wide n P f args w R)

theorem oper_in {r : Option Nat} {n : Nat} {P : Program} {o : Oper} {a : Act} {w : World} {K K' : Act → World → Prop} {Q Q' : Exit → Act → World → Prop} (hd : ∀ c, o.op ≠ .defer c)
    (hK : ∀ a w, K a w → K' a w) (hp : ∀ c a w, Q (.panic c) a w → Q' (.panic c) a w) (ho : ∀ a w, ¬ Q .outgrown a w) (h : o.wp P a w K Q) : o.wpIn (RF r) n P a w K' Q' := by
  refine ⟨fun _ _ => trivial, ?_⟩
  rw [Oper.semAt_eq _ _ _ hd]
  unfold Oper.wp at h
  have hR : ∀ (e : Ending) (w' : World), (match e, w' with
      | .returned v, w'' => K (a.put o.dst v) w''
      | .panicked chain, w'' => Q (.panic chain) a w''
      | .outgrown, _ => LetsOut Q) → (match e, w' with
      | .returned v, w'' => K' (a.put o.dst v) w''
      | .panicked chain, w'' => Q' (.panic chain) a w''
      | .outgrown, _ => LetsOut Q') := by
    intro e w' h
    cases e with
    | returned v => exact hK _ _ h
    | panicked chain => exact hp _ _ _ h
    | outgrown => obtain ⟨a', w'', h⟩ := h; exact absurd h (ho _ _)
  generalize (execOp a.eval o).run P w = res at h ⊢
  cases res with
  | ok v w' =>
    cases v with
    | value v => exact hK _ _ h
    | skip => exact hK _ _ h
    | defer d => exact hK _ _ h
    | enter f args => exact ⟨fun hd => by simp [RF, Fence.wide] at hd, calls_in (Calls.mono h hR)⟩
    | row row args => exact ⟨fun hd => by simp [RF, Fence.wide] at hd, rows_in (Rows.mono h fun v w' h => hK _ _ h)⟩
    | round => exact h.elim
    | _ => exact h.elim
  | halt e w' =>
    cases e with
    | panic v => exact hp _ _ _ h
    | _ => exact h.elim

theorem ops_in {r : Option Nat} {n : Nat} {P : Program} {ops : Array Oper} {Q Q' : Exit → Act → World → Prop} {l2 : List Nat} (hd : plainOps ops = true) (hn : ∀ a w, Q .normal a w → wpOpsIn (RF r) n P ops Q' l2 a w)
    (hp : ∀ c a w, Q (.panic c) a w → Q' (.panic c) a w) (ho : ∀ a w, ¬ Q .outgrown a w) : ∀ (l : List Nat) (a : Act) (w : World), wpOps P ops Q l a w → wpOpsIn (RF r) n P ops Q' (l ++ l2) a w
  | [], a, w, h => hn a w h
  | i :: l, a, w, h => by
    simp only [List.cons_append, wpOpsIn]
    simp only [wpOps] at h
    cases hi : ops[i]? with
    | none => simp only [hi] at h ⊢; exact ops_in hd hn hp ho l a w h
    | some o =>
      simp only [hi] at h ⊢
      by_cases hw : Region.wanted o (yielded ops a.tmps) = true
      · rw [if_pos hw] at h ⊢
        rcases h with h | ⟨_, a', w', h⟩
        · exact oper_in (plainOps_spec hd hi) (fun a w h => ops_in hd hn hp ho l a w h) hp ho h
        · exact absurd h (ho _ _)
      · rw [if_neg hw] at h ⊢
        exact ⟨fun _ _ => trivial, ops_in hd hn hp ho l _ w h⟩

theorem ops_in0 {r : Option Nat} {n : Nat} {P : Program} {ops : Array Oper} {Q : Exit → Act → World → Prop} (hd : plainOps ops = true) (ho : ∀ a w, ¬ Q .outgrown a w) {l : List Nat} {a : Act} {w : World} (h : wpOps P ops Q l a w) : wpOpsIn (RF r) n P ops Q l a w := by
  have := ops_in (r := r) (n := n) (P := P) (ops := ops) (Q := Q) (Q' := Q) (l2 := []) hd (fun a w h => h) (fun c a w h => h) ho l a w h
  rwa [List.append_nil] at this

def codePlain : Code → Bool
  | .region _ ops _ => plainOps ops
  | .seq a b => codePlain a && codePlain b
  | .cond _ a b => codePlain a && codePlain b
  | .block _ c => codePlain c
  | .loop c => codePlain c
  | .rangeFunc _ _ _ _ => false
  | _ => true

theorem postQ_out {G : Ent} {nt : Nat} {Q : AEx → Env → Heap → Prop} (a : Act) (w : World) : ¬ postQ G nt Q .outgrown a w := by
  rintro ⟨x, E, H, h, _⟩
  cases x <;> cases h

/-- Code in a round, or in none. -/
theorem acode_in {C : Ctx} (hC : C.Ok) {G : Ent} {nt : Nat} {r : Option Nat} {k : Nat} : ∀ {c : Code} {E : Env} {H : Heap} {Q : AEx → Env → Heap → Prop}, codeOk C nt c = true → codePlain c = true → acode C G.S.length G.W c E H Q →
    ∀ a w, St G nt (look E) H a w → c.wpIn (RF r) k C.P (postQ G nt Q) a w := by
  intro c
  induction c with
  | skip => intro E H Q _ _ h a w hs; exact wpIn_skip ⟨.normal, E, H, rfl, h, hs⟩
  | region id ops draw =>
    intro E H Q hok hpl h a w hs
    cases draw with
    | false =>
      obtain ⟨E', H', h1, h2⟩ := aops_tr hC (show aops C G.S.length G.W ops.toList ops.toList E H (Q .normal) from h)
      have := tr_wp (G := G) (nt := nt) (Q := postQ G nt Q) (by simpa [codeOk] using hok) (l := ops.toList) (k := 0) (by simp) h1 (fun a w hs => ⟨.normal, E', H', rfl, h2, hs⟩) a w hs
      rw [Array.length_toList, ← List.range_eq_range'] at this
      exact wpIn_region (ops_in0 hpl postQ_out this)
    | true =>
      refine wpIn_region_draw fun t' => ?_
      simp only [Region.schedule, hC.mixed, Bool.true_or, if_true]
      refine ops_in0 hpl postQ_out ?_
      refine region_alt hC (R := Q .normal) (fun E' H' hq a w hs => ⟨.normal, E', H', rfl, hq, hs⟩) (C.alt id (headD ops.toList) ops.size) ops (.refl _) (by simpa [codeOk] using hok) ?_ _ (lin_ext _ _ _ (by simp) (by simp)) a w hs
      simpa [acode] using h
  | seq x y ihx ihy =>
    intro E H Q hok hpl h a w hs
    simp only [codeOk, codePlain, Bool.and_eq_true] at hok hpl
    refine wpIn_seq (wpIn_mono (ihx hok.1 hpl.1 h a w hs) ?_)
    rintro e a w ⟨x, E, H, rfl, hq, hs⟩
    cases x with
    | normal => exact ihy hok.2 hpl.2 hq a w hs
    | ret => exact ⟨.ret, E, H, rfl, hq, hs⟩
    | exit m => exact ⟨.exit m, E, H, rfl, hq, hs⟩
  | cond c x y ihx ihy =>
    intro E H Q hok hpl h a w hs
    simp only [codeOk, codePlain, Bool.and_eq_true] at hok hpl
    obtain ⟨b, hb, h1, h2⟩ := onB_spec (show onB _ _ from h)
    have hv : a.eval c = .bool b := by
      obtain ⟨_, _, ρ, _, he⟩ := hs
      have : Rv ρ (shs H) w (ev (look E) c) (a.eval c) := by
        cases c with
        | tmp t => exact he t
        | const v =>
          have : EnvOn ρ (shs H) w (.move (.const v)) (look E) a := fun t ht => by simp [opTmps, Op.operands] at ht
          exact this.ev (by simp [Op.operands])
        | global g => trivial
        | func f => exact ⟨[], [], rfl, trivial, trivial⟩
      rw [hb] at this
      exact this
    refine wpIn_cond hv ?_
    cases b
    · exact ihy hok.2 hpl.2 (by have := h2 rfl; exact this) a w hs
    · exact ihx hok.1 hpl.1 (by have := h1 rfl; exact this) a w hs
  | block id c ih =>
    intro E H Q hok hpl h a w hs
    refine wpIn_block (wpIn_mono (ih hok hpl h a w hs) ?_)
    rintro e a w ⟨x, E, H, rfl, hq, hs⟩
    cases x with
    | normal => exact ⟨.normal, E, H, rfl, hq, hs⟩
    | ret => exact ⟨.ret, E, H, rfl, hq, hs⟩
    | exit m =>
      simp only [blockQ] at hq
      simp only [AEx.toExit, Exit.inBlock]
      by_cases hm : m = id
      · rw [if_pos hm] at hq ⊢; exact ⟨.normal, E, H, rfl, hq, hs⟩
      · rw [if_neg hm] at hq ⊢; exact ⟨.exit m, E, H, rfl, hq, hs⟩
  | loop c ih =>
    intro E H Q hok hpl h a w hs
    obtain ⟨ι, p, μ, EE, HH, ⟨i0, hp0, hw0⟩, hround⟩ := h
    let I : Nat → Act → World → Prop := fun k a w => ∃ i, μ i = k ∧ p i ∧ St G nt (look (EE i)) (HH i) a w
    have hleast : ∀ a w, (∃ k, I k a w) → ∃ k, I k a w ∧ ∀ m, I m a w → k ≤ m := fun a w ⟨k, hk⟩ => exists_least (fun k => I k a w) k hk
    let ν : Act → World → Nat := fun a w => by classical exact if h : ∃ k, I k a w then Classical.choose (hleast a w h) else 0
    have hν : ∀ a w (h : ∃ k, I k a w), I (ν a w) a w ∧ ∀ m, I m a w → ν a w ≤ m := by
      intro a w h
      have : ν a w = Classical.choose (hleast a w h) := by simp only [ν]; rw [dif_pos h]
      rw [this]
      exact Classical.choose_spec (hleast a w h)
    refine wpIn_loop (fun a w => ∃ k, I k a w) ν ⟨μ i0, i0, rfl, hp0, hw0.sound rfl hs⟩ ?_
    intro a w hI
    obtain ⟨⟨i, hi1, hi2, hi3⟩, _⟩ := hν a w hI
    refine wpIn_mono (ih hok hpl (hround i hi2) a w hi3) ?_
    rintro e a' w' ⟨x, E, H, rfl, hq, hs⟩
    cases x with
    | normal =>
      obtain ⟨j, hj1, hj2, hj3⟩ := hq
      have hI' : I (μ j) a' w' := ⟨j, rfl, hj1, hj3.sound rfl hs⟩
      refine ⟨⟨μ j, hI'⟩, ?_⟩
      have := (hν a' w' ⟨μ j, hI'⟩).2 (μ j) hI'
      omega
    | ret => exact ⟨.ret, E, H, rfl, hq, hs⟩
    | exit m => exact ⟨.exit m, E, H, rfl, hq, hs⟩
  | exit m => intro E H Q _ _ h a w hs; exact wpIn_exit ⟨.exit m, E, H, rfl, h, hs⟩
  | ret => intro E H Q _ _ h a w hs; exact wpIn_ret ⟨.ret, E, H, rfl, h, hs⟩
  | _ => intro E H Q _ _ h; exact h.elim
end Ink
/- A range over a function, walked by the evaluator: what a round may do and what it keeps. No conditions. -/
namespace Ink
open Go Go.RowKit

/-- A live block that lies in cells. -/
def Blk.isC : Blk → Bool
  | .dead _ => false
  | .mpb _ => false
  | _ => true
theorem RB.cells {ρ S w B o} (h : RB ρ S w B o) (hc : B.isC = true) : ∃ c T fz, o = some (.cells c T fz) := by
  cases B with
  | data σ v => obtain ⟨_, T, h⟩ := h; exact ⟨_, _, _, h⟩
  | seq wr e l => obtain ⟨_, c, T, fz, h, _⟩ := h; exact ⟨_, _, _, h⟩
  | win o e l => obtain ⟨_, c, T, fz, h, _⟩ := h; exact ⟨_, _, _, h⟩
  | ref x => obtain ⟨v, T, h, _⟩ := h; exact ⟨_, _, _, h⟩
  | mpb o => cases hc
  | dead s => cases hc
theorem isC_lv {B : Blk} (h : B.isC = true) : B.lv = true := by cases B <;> first | rfl | cases h

theorem shs_take {H : Heap} {m : Nat} (hm : m ≤ H.length) : (shs (H.take m)).length = m := by simp [shs_length]; omega

/-- What is kept from a world on: all but what the own blocks lie in. -/
def apartK (ρ : Nat → Nat) (H : Heap) (m : Nat) : Nat → Prop := fun b => ∀ i, m ≤ i → i < H.length → ρ i ≠ b

theorem Inv.start {G : Ent} {ρ H w} (h : Inv G ρ H w) {m : Nat} (hm : m ≤ H.length) (W : List Nat) (ds : List Deferred) : Inv ⟨ρ, w, shs (H.take m), W, apartK ρ H m, ds⟩ ρ H w := by
  refine ⟨h.rel, rfl, rfl, rfl, Nat.le_refl _, fun _ _ _ _ => rfl, fun _ => Nat.le_refl _, fun _ _ => rfl, fun i h1 h2 hk => absurd rfl (hk i (by have := shs_take hm; simp only at h1; omega) h2), ?_⟩
  have : shs H = shs (H.take m) ++ shs (H.drop m) := by rw [← shs_append, List.take_append_drop]
  rw [this]
  exact List.prefix_append _ _

/-- What holds behind a piece of code that was walked from such a start. -/
theorem Inv.sub {G : Ent} {ρ H w m W' ds ρ' H' w'} (h : Inv G ρ H w) (hn : G.S.length ≤ m) (hm : m ≤ H.length) (hW : ∀ i ∈ W', i < m → may G.S.length G.W i)
    (k : Inv ⟨ρ, w, shs (H.take m), W', apartK ρ H m, ds⟩ ρ' H' w') : Inv G ρ' H' w' := by
  have hS := shs_take hm
  have hl := h.len
  have hpre : ∀ i, i < m → ρ' i = ρ i := fun i hi => k.pre i (by simp only; omega)
  have hK : ∀ b, G.K b → b < G.w.heap.size → apartK ρ H m b := fun b hb hlt i h1 h2 he => by
    have := h.new i (by omega) h2 (he ▸ hb); omega
  have hm' : m ≤ H'.length := by have := k.len; simp only at this; omega
  refine ⟨k.rel, k.os.trans h.os, k.tape.trans h.tape, k.out.trans h.out, Nat.le_trans h.size k.size, fun b hKb hb hn' => ?_, fun b => Nat.le_trans (h.sz b) (k.sz b), fun i hi => ?_, fun i h1 h2 hKi => ?_, ?_⟩
  · have : w'.heap[b]? = w.heap[b]? := k.old b (hK b hKb hb) (Nat.lt_of_lt_of_le hb h.size) fun i hi hil heq => by
      simp only at heq hil
      rw [hS] at hil
      rcases hW i hi hil with hm | hm
      · have := h.new i hm (by omega) (heq ▸ hKb); omega
      · by_cases hi2 : i < G.S.length
        · exact hn' i hm hi2 (by rw [← h.pre i hi2]; exact heq)
        · have := h.new i (by omega) (by omega) (heq ▸ hKb); omega
    rw [this]
    exact h.old b hKb hb hn'
  · rw [hpre i (by omega)]; exact h.pre i hi
  · by_cases hi : i < m
    · rw [hpre i hi] at hKi ⊢; exact h.new i h1 (by omega) hKi
    · refine Nat.le_of_not_lt fun hlt => ?_
      have := k.new i (by simp only; omega) h2 (hK _ hKi hlt)
      have := h.size
      simp only at *
      omega
  · have h3 : shs H = shs (H.take m) ++ shs (H.drop m) := by rw [← shs_append, List.take_append_drop]
    have h4 : G.S <+: shs (H.take m) := List.prefix_of_prefix_length_le h.sh (by rw [h3]; exact List.prefix_append _ _) (by omega)
    exact h4.trans k.sh

/-- What is no cells is kept by such code. -/
theorem Inv.keeps {ρ H w m W' ds ρ' H' w'} (hr : Rel ρ H w) (hc : ∀ B ∈ H, B.isC = true) (hm : m ≤ H.length) (k : Inv ⟨ρ, w, shs (H.take m), W', apartK ρ H m, ds⟩ ρ' H' w') {b : Nat} {o : Obj} (hb : w.heap[b]? = some o) (ho : o.isCells = false) : w'.heap[b]? = some o := by
  have hne : ∀ i, i < H.length → ρ i ≠ b := fun i hi e => by
    have hB : H[i]? = some H[i] := by simp
    obtain ⟨c, T, fz, h⟩ := (hr.blk i _ hB).cells (hc _ (List.mem_of_getElem? hB))
    rw [e, hb] at h
    cases h
    cases ho
  have := k.old b (fun i _ hi => hne i hi) (Array.getElem?_eq_some_iff.1 hb).1 fun i _ hi e => hne i (by have := shs_take hm; simp only at hi; omega) e
  rw [this]; exact hb

theorem bsz_turn {W W' : World} {row : Option Nat} (hg : W.grownBy W' row) (hr : ∀ r, row = some r → ∃ o : Obj, W.heap[r]? = some o ∧ o.isCells = false) (b : Nat) : bsz W b ≤ bsz W' b := by
  rcases Nat.lt_or_ge b W.heap.size with h | h
  · by_cases hb : some b = row
    · obtain ⟨o, ho, hc⟩ := hr b hb.symm
      have : bsz W b = 0 := by unfold bsz; rw [ho]; cases o <;> first | rfl | cases hc
      omega
    · have := hg.block b h hb
      unfold bsz; rw [this]; exact Nat.le_refl _
  · have : bsz W b = 0 := by unfold bsz; rw [Array.getElem?_eq_none h]
    omega

/-- The turn of what is no cells, by another's hand. -/
theorem Inv.turn {G : Ent} {ρ H W W' row} (h : Inv G ρ H W) (hc : ∀ B ∈ H, B.isC = true) (hg : W.grownBy W' row) (hr : ∀ r, row = some r → G.w.heap.size ≤ r ∧ ∃ o : Obj, W.heap[r]? = some o ∧ o.isCells = false) : Inv G ρ H W' := by
  have hsz := bsz_turn hg fun r e => (hr r e).2
  have hE : Ext ρ (shs H) W ρ (shs H) W' := ⟨fun _ _ => rfl, List.prefix_refl _, hsz⟩
  refine ⟨⟨fun i B hi => ?_, h.rel.sep⟩, hg.os.trans h.os, hg.tape.trans h.tape, hg.output.trans h.out, Nat.le_trans h.size hg.size, fun b hK hb hn => ?_, fun b => Nat.le_trans (h.sz b) (hsz b), h.pre, h.new, h.sh⟩
  · have hrb := h.rel.blk i B hi
    obtain ⟨c, T, fz, hcl⟩ := hrb.cells (hc _ (List.mem_of_getElem? hi))
    have : W'.heap[ρ i]? = W.heap[ρ i]? := hg.block _ (Array.getElem?_eq_some_iff.1 hcl).1 fun e => by
      obtain ⟨_, o, ho, hco⟩ := hr _ e.symm
      rw [hcl] at ho; cases ho; cases hco
    rw [this]
    exact hrb.mono hE
  · have : W'.heap[b]? = W.heap[b]? := hg.block b (Nat.lt_of_lt_of_le hb h.size) fun e => by have := (hr b e.symm).1; omega
    rw [this]; exact h.old b hK hb hn

variable {P : Program}
/-- The contract of an iterator whose rounds all go on: it hands over what 'S' says, in that order. -/
def SeqGoes {α : Type} (n : Nat) (P : Program) (g : Nat) (lb : Array Value) (encs : α → Array Value) (Kp : World → World → Prop) (S : List α → Prop) (N : Nat) (w : World) : Prop :=
  ∀ (l : Nat) (J : List α → World → Prop) (W : World), Below w.heap.size w W → AbidesFrom W.heap.size J →
    (∀ pre x W1, J pre W1 → pre.length < N → YieldAt (RF none) (n - 1) P l (encs x) W1 fun e W' => e = .returned (.bool true) ∧ J (pre ++ [x]) W' ∧ Kp W1 W') →
    J [] W → CallsIn (RF none) n P g (#[.func (.yield l) #[] #[]] ++ lb) W fun e W' => (∃ v, e = .returned v) ∧ ∃ xs, S xs ∧ J xs W'

/-- The statement 'for .. := range g { .. }' whose rounds all go on. -/
theorem wpIn_range {α : Type} {n : Nat} {g : Operand} {ps : Array Tmp} {assign body : Code} {Q : Exit → Act → World → Prop} {a : Act} {w : World}
    {gf : Nat} {lb : Array Value} (hg : a.eval g = .func (.func gf) #[] lb) (eg : ∀ args w, (callFunc gf args).run P w = .ok (.enter gf args) w)
    {encs : α → Array Value} {Kp : World → World → Prop} {S : List α → Prop} {N : Nat} (hseq : SeqGoes (n - 1) P gf lb encs Kp S N w)
    (hKt : ∀ {A B C : World}, Kp A B → Kp B C → Kp A C) (hKb : ∀ (W : World) (l : Nat) (o o' : Obj), w.heap.size ≤ l → W.heap[l]? = some o → o.isCells = false → o'.isCells = false → Kp W (W.putObj l o')) (hps : ∀ x, (encs x).size = ps.size)
    (I : List α → World → Prop) (hI : OwnFrom w.heap.size I) (h0 : I [] w)
    (hround : ∀ (l : Nat) (pre : List α) (x : α) (W : World), w.heap.size ≤ l → I pre W → pre.length < N →
      assign.wpIn (RF (some l)) (n - 1 - 1) P (Exit.then (fun a' W1 => KeepsFrom w.heap.size W W1 ∧ Kp W W1 ∧ ∀ o o' : Obj, W1.heap[l]? = some o → o.isCells = false → o'.isCells = false →
        body.wpIn (RF (some l)) (n - 1 - 1) P (fun e _ W3 => e = .normal ∧ KeepsFrom w.heap.size (W1.putObj l o') W3 ∧ Kp (W1.putObj l o') W3 ∧ I (pre ++ [x]) W3) a' (W1.putObj l o')) (fun _ _ _ => False))
        { tmps := (ps.zip (encs x)).foldl (fun t (p, v) => t.setIfInBounds p v) a.tmps, defers := [] } W)
    (hdone : ∀ (D : Nat) (xs : List α) (W : World), w.heap.size ≤ D → S xs → I xs W → W.heap[D]? = some (.deferred (some [])) → Q .normal { a with defers := { target := .collected D, args := #[] } :: a.defers } W) :
    (Code.rangeFunc g ps assign body).wpIn (RF none) n P Q a w := by
  refine wpIn_rangeFunc ?_
  intro fn hfn
  obtain ⟨rec, hrec⟩ : ∃ rec : LoopState → Option Code → Loop, rec = fun st pe => { state := st, pending := pe, fn, tmps := a.tmps, params := ps, assign, body, defers := w.heap.size } := ⟨_, rfl⟩
  obtain ⟨W1, hW1⟩ : ∃ W1, (w.alloc (.deferred (some []))).alloc (.loop (rec .ready none)) = W1 := ⟨_, rfl⟩
  have hL1 : W1.heap[w.heap.size + 1]? = some (.loop (rec .ready none)) := by
    rw [← hW1]; have := World.alloc_heap_new (w.alloc (.deferred (some []))) (.loop (rec .ready none)); rwa [World.size_alloc] at this
  have hK1 : W1.heap[w.heap.size]? = some (.deferred (some [])) := by
    rw [← hW1]; exact (Below.heap_alloc _ _ _ (by simp)).trans (World.alloc_heap_new w _)
  have hI1 : I [] W1 := by rw [← hW1]; exact hI.alloc _ (hI.alloc _ h0)
  have hb1 : Below w.heap.size w W1 := by
    rw [← hW1]; exact ((Below.refl _ w).alloc (Nat.le_refl _) _).alloc (by simp) _
  refine ⟨w.heap.size + 1, [{ target := .collected w.heap.size, args := #[] }], W1, { target := .fn (.func gf) lb, args := #[.func (.yield (w.heap.size + 1)) #[] #[]] }, W1, gf,
    #[.func (.yield (w.heap.size + 1)) #[] #[]] ++ lb, W1, ?_, ?_, ?_, ?_, fun h => by simp [RF, Fence.wide] at h, ?_⟩
  · rw [← hW1, hrec]; exact run_enterLoop_outer _ _ _ _ _
  · simp only [resolve, hg]
    simp [go_sem]
  · intro f' hf'; trivial
  · simp [invoke, go_sem, eg]
  · have hnw : ∀ {A B : World} {row : Option Nat}, (∀ r, row = some r → W1.heap.size ≤ r ∧ ∃ o : Obj, A.heap[r]? = some o ∧ o.isWalk = true) → (∀ r, row = some r → w.heap.size ≤ r ∧ ∃ o : Obj, A.heap[r]? = some o ∧ o.isCells = false) :=
      fun hr r e => by obtain ⟨hB, o, ho, hw⟩ := hr r e; exact ⟨by rw [← hW1] at hB; simp at hB; omega, o, ho, Obj.not_cells_of_walk hw⟩
    refine (hseq (w.heap.size + 1)
      (fun pre W => I pre W ∧ W.heap[w.heap.size + 1]? = some (.loop (rec .ready none)) ∧ W.heap[w.heap.size]? = some (.deferred (some [])))
      W1 hb1
      (fun s A B row hs hg' hr => ⟨hI s A B row hs.1 hg' (hnw (B := B) hr), (grownBy_keeps hg' (fun r e => (hr r e).2) hs.2.1 rfl).trans hs.2.1, (grownBy_keeps hg' (fun r e => (hr r e).2) hs.2.2 rfl).trans hs.2.2⟩)
      ?_ ⟨hI1, hL1, hK1⟩).mono ?_
    · rintro pre x W ⟨hi, hl, hk⟩ hlen
      have hy := run_yield (P := P) (args := encs x) hl (by rw [hrec]; exact hps x)
      rw [hrec] at hy
      refine ⟨fn, _, assign, body, hy, roundIn_of_wpIn hfn (wpIn_mono (hround _ pre x W (by omega) hi hlen) ?_)⟩
      intro e a1 V hV
      cases e with
      | normal =>
        obtain ⟨hkf, hkp, hbody⟩ := hV
        have hlV : V.heap[w.heap.size + 1]? = some (.loop (rec .ready none)) := hkf.same _ _ (by omega) hl rfl
        have hkV : V.heap[w.heap.size]? = some (.deferred (some [])) := hkf.same _ _ (Nat.le_refl _) hk rfl
        have hlt : w.heap.size + 1 < V.heap.size := (Array.getElem?_eq_some_iff.1 hlV).1
        refine ⟨_, run_beginRound hlV (by rw [hrec]), ?_⟩
        have hl2 : (V.putObj (w.heap.size + 1) (.loop { rec .ready none with state := .busy })).heap[w.heap.size + 1]? = some (.loop { rec .ready none with state := .busy }) := World.putObj_heap_same hlt
        have hk2 : (V.putObj (w.heap.size + 1) (.loop { rec .ready none with state := .busy })).heap[w.heap.size]? = some (.deferred (some [])) := (World.putObj_heap_other (by omega)).trans hkV
        have hw2 : Kp V (V.putObj (w.heap.size + 1) (.loop { rec .ready none with state := .busy })) := hKb _ _ _ _ (by omega) hlV rfl rfl
        refine wpIn_mono (hbody _ (.loop { rec .ready none with state := .busy }) hlV rfl rfl) ?_
        rintro e a3 W3 ⟨rfl, hk3, hkp3, hi3⟩
        have hl3 := hk3.same _ _ (by omega) hl2 rfl
        have hend := run_endRound (P := P) none hl3
        rw [hrec] at hend
        rw [hrec] at hl3
        refine ⟨_, _, hend, ⟨rfl, ⟨hI.putObj _ hi3 (by omega) hl3 rfl, ?_, (World.putObj_heap_other (by omega)).trans (hk3.same _ _ (Nat.le_refl _) hk2 rfl)⟩, hKt hkp (hKt (hKt hw2 hkp3) (hKb _ _ _ _ (by omega) hl3 rfl rfl))⟩⟩
        rw [World.putObj_heap_same (Array.getElem?_eq_some_iff.1 hl3).1, hrec]
        rfl
      | ret => exact hV.elim
      | exit id => exact hV.elim
      | goto t => exact hV.elim
      | panic ch => exact hV.elim
      | outgrown => exact hV.elim
    · rintro e W2 ⟨⟨v, rfl⟩, xs, hS, hi, hl, hk⟩
      exact ⟨none, _, by have := run_endLoop (P := P) hl (by rw [hrec]; simp); rw [hrec] at this; exact this, hdone _ xs _ (Nat.le_refl _) hS (hI.putObj _ hi (by omega) hl rfl) ((World.putObj_heap_other (by omega)).trans hk)⟩
end Ink
/- A range over a function at abstract heaps. No conditions. -/
namespace Ink
open Go Go.RowKit

theorem ren_id {m : Nat} {v : AV} (h : inScope m v) : ren id v = v := ren_in (fun _ _ => rfl) h

theorem Rv_at {ρ0 ρ : Nat → Nat} {H0 H1 : Heap} {m : Nat} {w W : World} {v : AV} {x : Value} (hv : inScope m v) (hr : Rv ρ0 (shs H0) w v x) (h1 : m ≤ H1.length) (hs : shs (H0.take m) = shs (H1.take m))
    (hρ : ∀ i, i < m → ρ i = ρ0 i) (hb : ∀ b, bsz w b ≤ bsz W b) : Rv ρ (shs H1) W v x := by
  have hpre : ∀ H : Heap, shs (H.take m) <+: shs H := fun H => by
    have : shs H = shs (H.take m) ++ shs (H.drop m) := by rw [← shs_append, List.take_append_drop]
    rw [this]; exact List.prefix_append _ _
  have hget : ∀ (H : Heap) (b : Nat), b < m → (shs H)[b]? = (shs (H.take m))[b]? := fun H b hb => by simp [shs, hb]
  have e1 : Rv ρ0 (shs (H1.take m)) w v x := by
    have := Rv_unren (ρ := ρ0) (κ := id) (m := m) (S := shs H0) (S' := shs (H1.take m)) (w := w) (fun b hb => by rw [id, hget H0 b hb, hs]) hv (by rw [ren_id hv]; exact hr)
    exact this
  exact Rv.mono ⟨fun i hi => hρ i (by rw [shs_take h1] at hi; exact hi), hpre H1, hb⟩ e1

theorem tset_get {l : Array Value} {p t : Nat} {v : Value} (hp : p < l.size) : (l.setIfInBounds p v).getD t undef = if t = p then v else l.getD t undef := by
  by_cases h : t = p
  · subst h; simp [hp]
  · rw [if_neg h]
    have : ¬ p = t := fun e => h e.symm
    simp only [Array.getD_eq_getD_getElem?, Array.getElem?_setIfInBounds_ne this]

theorem look_scope {m : Nat} {E : Env} (hE : ∀ x ∈ E, inScope m x.2) (t : Nat) : inScope m (look E t) := by
  induction E with
  | nil => exact trivial
  | cons x E ih =>
    obtain ⟨s, v⟩ := x
    simp only [look]
    by_cases h : s = t
    · rw [if_pos h]; exact hE (s, v) (by simp)
    · rw [if_neg h]; exact ih fun x hx => hE x (by simp [hx])

/-- What may be forgotten where also the first blocks may point to others: each block gets another number, the first m keep theirs. -/
structure HeapP (m : Nat) (H H' : Heap) (τ : List Nat) : Prop where
  nd : τ.Nodup
  fix : ∀ i, i < m → τ.getD i 0 = i
  len : m ≤ H'.length
  tl : tailW (sg 0 τ) H'.length H τ H'

theorem HeapP.sound {m : Nat} {H H' : Heap} {τ : List Nat} {G : Ent} {ρ : Nat → Nat} {w : World} (hn : G.S.length = m) (h : HeapP m H H' τ) (hi : Inv G ρ H w) : Inv G (fun i => ρ (sg 0 τ i)) H' w := by
  have hs : ∀ i, sg 0 τ i = τ.getD i 0 := fun i => by simp [sg]
  have h0 : HeapW 0 H H' (sg 0 τ) := ⟨[], H, H', τ, rfl, rfl, rfl, h.nd, fun i x hx => by simp at hx, rfl, h.tl⟩
  have hi0 : Inv ⟨ρ, w, [], [], fun _ => False, []⟩ ρ H w := ⟨hi.rel, rfl, rfl, rfl, Nat.le_refl _, fun _ h => h.elim, fun _ => Nat.le_refl _, fun _ _ => rfl, fun _ _ _ h => h.elim, List.nil_prefix⟩
  have hr := (HeapW.sound (n := 0) (G := ⟨ρ, w, [], [], fun _ => False, []⟩) rfl h0 hi0).1.rel
  obtain ⟨hlen, hget⟩ := tailW_get h.tl
  have hblk : ∀ i B, H'[i]? = some B → ∃ B0, H[sg 0 τ i]? = some B0 ∧ BlkW (sg 0 τ) H'.length B B0 := fun i B hB => by
    rw [hs]; exact hget i B hB
  refine ⟨hr, hi.os, hi.tape, hi.out, hi.size, hi.old, hi.sz, fun i hlt => ?_, fun i h1 h2 hK => ?_, ?_⟩
  · show ρ (sg 0 τ i) = G.ρ i
    rw [hs, h.fix i (by omega)]; exact hi.pre i hlt
  · have hB : H'[i]? = some H'[i] := by simp
    obtain ⟨B0, h3, _⟩ := hblk i _ hB
    refine hi.new (sg 0 τ i) ?_ (get_lt h3) hK
    refine Nat.le_of_not_lt fun hlt => ?_
    have h4 := h.fix (sg 0 τ i) (by omega)
    rw [hs] at h4 hlt
    have hil : i < τ.length := by omega
    have hjl : τ.getD i 0 < τ.length := by have := h.len; omega
    have h5 : τ[τ.getD i 0] = τ[i] := by
      have e1 : τ.getD (τ.getD i 0) 0 = τ[τ.getD i 0] := by rw [List.getD_eq_getElem?_getD (i := τ.getD i 0), List.getElem?_eq_getElem hjl]; rfl
      have e2 : τ.getD i 0 = τ[i] := by rw [List.getD_eq_getElem?_getD, List.getElem?_eq_getElem hil]; rfl
      rw [← e1, h4, e2]
    have hpw := List.pairwise_iff_getElem.1 h.nd
    rcases Nat.lt_trichotomy (τ.getD i 0) i with hlt2 | heq | hlt2
    · exact hpw _ _ hjl hil hlt2 h5
    · omega
    · exact hpw _ _ hil hjl hlt2 h5.symm
  · have hm := h.len
    have hx : G.S = (shs H').take m := by
      refine List.ext_getElem? fun i => ?_
      rcases Nat.lt_or_ge i m with hlt | hge
      · have hB : H'[i]? = some (H'[i]'(by omega)) := by simp
        obtain ⟨B0, h3, h4⟩ := hblk i _ hB
        rw [hs, h.fix i hlt] at h3
        rw [List.getElem?_take, if_pos hlt, shs_get hB, BlkW_sh h4, ← shs_get h3]
        have hp := hi.sh
        have hgs : G.S[i]? = some (G.S[i]'(by omega)) := by simp
        rw [hgs]
        exact (prefix_get hp hgs).symm
      · rw [List.getElem?_take, if_neg (by omega), List.getElem?_eq_none (by omega)]
    rw [hx]
    exact List.take_prefix _ _

theorem range_rule {α : Type} {C : Ctx} (hC : C.Ok) {G : Ent} {nt m n : Nat} {E : Env} {HH : List α → Heap} {GdH : Heap → Prop} {Gd : World → Prop} {t p q : Nat} {assign body : Code} {gf : FuncId} {lbA : List AV} {Wr : List Nat} {a1 a2 : α → AV} {encs : α → Array Value}
    {S : List α → Prop} {N : Nat} {Q : Exit → Act → World → Prop} {a : Act} {w : World} {ρ0 : Nat → Nat}
    (hinv : Inv G ρ0 (HH []) w) (htm : ∀ t, Rv ρ0 (shs (HH [])) w (look E t) (a.tmps.getD t undef)) (hnt : a.tmps.size = nt)
    (hgS : G.S.length ≤ m) (hHl : ∀ pre, m ≤ (HH pre).length) (hHc : ∀ pre, ∀ B ∈ HH pre, B.isC = true) (hHs : ∀ pre, shs ((HH pre).take m) = shs ((HH []).take m)) (hHG : ∀ pre, GdH (HH pre))
    (hWr : ∀ i ∈ Wr, i < m → may G.S.length G.W i) (hE : ∀ x ∈ E, inScope m x.2) (hg : look E t = .fn gf [] lbA) (he : Enters C.P gf)
    (henc : ∀ x, ∃ v1 v2, encs x = #[v1, v2] ∧ ∀ ρ S w, Rv ρ S w (a1 x) v1 ∧ Rv ρ S w (a2 x) v2) (hp : p < nt) (hq : q < nt) (hpq : p ≠ q)
    (hGd : ∀ H ρ W, Rel ρ H W → GdH H → (∀ i, i < m → ρ i = ρ0 i) → Gd W) (hGb : ∀ (W : World) (l : Nat) (o o' : Obj), W.heap[l]? = some o → o.isCells = false → o'.isCells = false → Gd W → Gd (W.putObj l o'))
    (hit : ∀ ws, Rvs ρ0 (shs (HH [])) w lbA ws → SeqGoes (n - 1) C.P gf ws.toArray encs (fun W W' => Gd W → Gd W') S N w)
    (ho1 : codeOk C nt assign = true) (ho2 : codePlain assign = true) (ho3 : codeOk C nt body = true) (ho4 : codePlain body = true)
    (hround : ∀ pre x, pre.length < N → acode C m Wr assign ((p, a1 x) :: (q, a2 x) :: E) (HH pre) fun ex E1 H1 => ex = .normal ∧ ((∀ B ∈ H1, B.isC = true) ∧ GdH H1) ∧ acode C m Wr body E1 H1 fun ex H2 H3 => ex = .normal ∧ ∃ τ, HeapP m H3 (HH (pre ++ [x])) τ)
    (hdone : ∀ D W xs ρ, w.heap.size ≤ D → S xs → Inv G ρ (HH xs) W → (∀ t, Rv ρ (shs (HH xs)) W (look E t) (a.tmps.getD t undef)) → W.heap[D]? = some (.deferred (some [])) → Q .normal { a with defers := { target := .collected D, args := #[] } :: a.defers } W) :
    (Code.rangeFunc (.tmp t) #[p, q] assign body).wpIn (RF none) n C.P Q a w := by
  have hgv := htm t
  rw [hg] at hgv
  obtain ⟨vs, ws, hgv, hvs, hws⟩ := hgv
  have hvs0 : vs = [] := by cases vs <;> first | rfl | exact hvs.elim
  subst hvs0
  have hsz0 := hinv.size
  have hRv : ∀ {H : Heap} {ρ : Nat → Nat} {W : World}, m ≤ H.length → shs (H.take m) = shs ((HH []).take m) → (∀ i, i < m → ρ i = ρ0 i) → (∀ b, bsz w b ≤ bsz W b) → ∀ t, Rv ρ (shs H) W (look E t) (a.tmps.getD t undef) := by
    intro H ρ W h1 h2 h3 h4 t
    exact Rv_at (H0 := HH []) (m := m) (w := w) (look_scope hE t) (htm t) h1 h2.symm h3 h4
  refine wpIn_range (α := α) (gf := gf) (lb := ws.toArray) (encs := encs) (Kp := fun W W' => Gd W → Gd W') (S := S) (N := N) hgv (callFunc_run he) (hit ws hws) (fun h k g => k (h g))
    (fun W l o o' _ h1 h2 h3 g => hGb W l o o' h1 h2 h3 g) (fun x => by obtain ⟨v1, v2, h, _⟩ := henc x; rw [h]; rfl)
    (fun pre W => ∃ ρ, Inv G ρ (HH pre) W ∧ (∀ i, i < m → ρ i = ρ0 i) ∧ ∀ b, bsz w b ≤ bsz W b) ?_ ⟨ρ0, hinv, fun _ _ => rfl, fun _ => Nat.le_refl _⟩ ?_ ?_
  · rintro pre W W' row ⟨ρ, h1, h2, h3⟩ hgr hr
    exact ⟨ρ, h1.turn (hHc pre) hgr fun r e => ⟨Nat.le_trans hsz0 (hr r e).1, (hr r e).2⟩, h2, fun b => Nat.le_trans (h3 b) (bsz_turn hgr (fun r e => (hr r e).2) b)⟩
  · rintro l pre x W hl ⟨ρ, h1, h2, h3⟩ hpN
    obtain ⟨v1, v2, hv, hvv⟩ := henc x
    have hS := shs_take (hHl pre)
    have hst := h1.start (hHl pre) Wr []
    have hs : St ⟨ρ, W, shs ((HH pre).take m), Wr, apartK ρ (HH pre) m, []⟩ nt (look ((p, a1 x) :: (q, a2 x) :: E)) (HH pre) { tmps := (#[p, q].zip (encs x)).foldl (fun t (p, v) => t.setIfInBounds p v) a.tmps, defers := [] } W := by
      refine ⟨?_, rfl, ρ, hst, fun t => ?_⟩
      · rw [hv]; simp [hnt]
      · rw [hv]
        rw [show (#[p, q].zip #[v1, v2]).foldl (fun t (p, v) => t.setIfInBounds p v) a.tmps = (a.tmps.setIfInBounds p v1).setIfInBounds q v2 by simp]
        rw [tset_get (by simp [hnt]; exact hq), tset_get (by rw [hnt]; exact hp)]
        simp only [look]
        by_cases e1 : t = q
        · subst e1
          rw [if_pos rfl, if_neg hpq, if_pos rfl]
          exact (hvv _ _ _).2
        · rw [if_neg e1]
          by_cases e2 : t = p
          · subst e2; rw [if_pos rfl, if_pos rfl]; exact (hvv _ _ _).1
          · rw [if_neg e2, if_neg fun h => e2 h.symm, if_neg fun h => e1 h.symm]
            exact hRv (hHl pre) (hHs pre) h2 h3 t
    have hac := hround pre x hpN
    rw [← show (Ent.mk ρ W (shs ((HH pre).take m)) Wr (apartK ρ (HH pre) m) []).S.length = m from hS] at hac
    refine wpIn_mono (acode_in hC ho1 ho2 hac _ _ hs) ?_
    rintro e a' W1 ⟨ex, E1, H1, rfl, ⟨rfl, ⟨hc1, hgd1⟩, hb1⟩, hs1⟩
    obtain ⟨hnt1, hdf1, ρ1, hi1, he1⟩ := hs1
    have hm1 : m ≤ H1.length := by have := hi1.len; simp only [hS] at this; exact this
    have hp1 : ∀ i, i < m → ρ1 i = ρ0 i := fun i hi => (hi1.pre i (by simp only [hS]; exact hi)).trans (h2 i hi)
    have hI1 : Inv G ρ1 H1 W1 := h1.sub hgS (hHl pre) hWr hi1
    have hsh1 : shs (H1.take m) = shs ((HH []).take m) := by
      rw [← hHs pre]
      have h4 : shs ((HH pre).take m) <+: shs H1 := hi1.sh
      have h5 : shs H1 = shs (H1.take m) ++ shs (H1.drop m) := by rw [← shs_append, List.take_append_drop]
      have h6 : shs ((HH pre).take m) <+: shs (H1.take m) := List.prefix_of_prefix_length_le h4 (by rw [h5]; exact List.prefix_append _ _) (by rw [hS, shs_take hm1]; exact Nat.le_refl _)
      exact (h6.eq_of_length (by rw [hS, shs_take hm1])).symm
    refine ⟨⟨hi1.size, fun b o _ hb ho => hi1.keeps hst.rel (hHc pre) (hHl pre) hb ho⟩, fun _ => hGd H1 ρ1 W1 hI1.rel hgd1 hp1, fun o o' ho hno hno' => ?_⟩
    have hgr : W1.grownBy (W1.putObj l o') (some l) := grownBy_putObj' W1 l o'
    have hrow : ∀ r, some l = some r → G.w.heap.size ≤ r ∧ ∃ o : Obj, W1.heap[r]? = some o ∧ o.isCells = false := fun r e => by cases e; exact ⟨Nat.le_trans hsz0 hl, o, ho, hno⟩
    have hI2 : Inv G ρ1 H1 (W1.putObj l o') := hI1.turn hc1 hgr hrow
    have hst2 := hI2.start hm1 Wr []
    have hS1 := shs_take hm1
    have hbz : ∀ b, bsz W1 b ≤ bsz (W1.putObj l o') b := bsz_turn hgr fun r e => (hrow r e).2
    have hs2 : St ⟨ρ1, W1.putObj l o', shs (H1.take m), Wr, apartK ρ1 H1 m, []⟩ nt (look E1) H1 a' (W1.putObj l o') :=
      ⟨hnt1, hdf1, ρ1, hst2, fun t => (he1 t).mono ⟨fun _ _ => rfl, List.prefix_refl _, hbz⟩⟩
    rw [show (Ent.mk ρ W (shs ((HH pre).take m)) Wr (apartK ρ (HH pre) m) []).S.length = (Ent.mk ρ1 (W1.putObj l o') (shs (H1.take m)) Wr (apartK ρ1 H1 m) []).S.length from hS.trans hS1.symm] at hb1
    refine wpIn_mono (acode_in hC ho3 ho4 hb1 _ _ hs2) ?_
    rintro e a2 W3 ⟨ex, E2, H2, rfl, ⟨rfl, τ, hw⟩, hs3⟩
    obtain ⟨_, _, ρ2, hi2, _⟩ := hs3
    rw [show (Ent.mk ρ1 (W1.putObj l o') (shs (H1.take m)) Wr (apartK ρ1 H1 m) []).S.length = m from hS1] at hw
    have hi3 := HeapP.sound (m := m) hS1 hw hi2
    have hp3 : ∀ i, i < m → ρ2 (sg 0 τ i) = ρ0 i := fun i hi => (hi3.pre i (by simp only [hS1]; exact hi)).trans (hp1 i hi)
    have hI3 : Inv G (fun i => ρ2 (sg 0 τ i)) (HH (pre ++ [x])) W3 := hI2.sub hgS hm1 hWr hi3
    refine ⟨rfl, ⟨hi3.size, fun b o _ hb ho => hi3.keeps hst2.rel hc1 hm1 hb ho⟩, fun _ => hGd _ _ W3 hI3.rel (hHG _) hp3, _, hI3, hp3, fun b => ?_⟩
    exact Nat.le_trans (h3 b) (Nat.le_trans (hi1.sz b) (Nat.le_trans (hbz b) (hi3.sz b)))
  · rintro D xs W hD hS ⟨ρ, h1, h2, h3⟩ hW
    exact hdone D W xs ρ hD hS h1 (hRv (hHl xs) (hHs xs) h2 h3) hW
end Ink
/- An iterator over a list, walked by the evaluator. No conditions. -/
namespace Ink
open Go Go.RowKit

theorem Rel_same {ρ ρ' : Nat → Nat} {H : Heap} {w : World} (h : Rel ρ H w) (he : ∀ i, i < H.length → ρ' i = ρ i) : Rel ρ' H w := by
  refine ⟨fun i B hi => ?_, fun i j A B hi hj => ?_⟩
  · rw [he i (get_lt hi)]
    exact (h.blk i B hi).mono ⟨fun i hi => he i (by rw [shs_length] at hi; exact hi), List.prefix_refl _, fun _ => Nat.le_refl _⟩
  · rw [he i (get_lt hi), he j (get_lt hj)]; exact h.sep i j A B hi hj
theorem Rel_kept {ρ : Nat → Nat} {H : Heap} {w W : World} (h : Rel ρ H w) (hc : ∀ B ∈ H, B.isC = true) (hb : ∀ (b : Nat) (c : Array Value) (T : TypeId) (fz : Nat × Nat), w.heap[b]? = some (Obj.cells c T fz) → W.heap[b]? = w.heap[b]?) (hz : ∀ b, bsz w b ≤ bsz W b) : Rel ρ H W := by
  refine ⟨fun i B hi => ?_, h.sep⟩
  have hrb := h.blk i B hi
  obtain ⟨c, T, fz, hcl⟩ := hrb.cells (hc _ (List.mem_of_getElem? hi))
  rw [hb _ _ _ _ hcl]
  exact hrb.mono ⟨fun _ _ => rfl, List.prefix_refl _, hz⟩
theorem Rel_below {ρ : Nat → Nat} {H : Heap} {w W : World} (h : Rel ρ H w) (hc : ∀ B ∈ H, B.isC = true) (hb : Below w.heap.size w W) : Rel ρ H W := by
  refine Rel_kept h hc (fun b c T fz hcl => hb.block b (Array.getElem?_eq_some_iff.1 hcl).1) fun b => ?_
  rcases Nat.lt_or_ge b w.heap.size with hl | hl
  · have := hb.block b hl
    unfold bsz; rw [this]; exact Nat.le_refl _
  · have : bsz w b = 0 := by unfold bsz; rw [Array.getElem?_eq_none hl]
    omega
theorem Rel_turn {ρ : Nat → Nat} {H : Heap} {W : World} (h : Rel ρ H W) (hc : ∀ B ∈ H, B.isC = true) {l : Nat} {o o' : Obj} (ho : W.heap[l]? = some o) (hno : o.isCells = false) : Rel ρ H (W.putObj l o') := by
  refine Rel_kept h hc (fun b c T fz hcl => ?_) (bsz_turn (grownBy_putObj' W l o') fun r e => by cases e; exact ⟨o, ho, hno⟩)
  exact World.putObj_heap_other fun e => by subst e; rw [ho] at hcl; cases hcl; cases hno

theorem bsz_below {w W : World} (hb : Below w.heap.size w W) (b : Nat) : bsz w b ≤ bsz W b := by
  rcases Nat.lt_or_ge b w.heap.size with hl | hl
  · have := hb.block b hl
    unfold bsz; rw [this]; exact Nat.le_refl _
  · have : bsz w b = 0 := by unfold bsz; rw [Array.getElem?_eq_none hl]
    omega

theorem tr_part {C : Ctx} {G : Ent} {nt : Nat} {ops : Array Oper} (hd : dstOk nt ops.toList = true) {Q : Exit → Act → World → Prop} :
    ∀ {l : List Oper} {k : Nat} {E H E' H'}, (∀ j o, l[j]? = some o → ops[k + j]? = some o) → Tr C G.S.length G.W ops l E H E' H' → (∀ a w, St G nt E' H' a w → Q .normal a w) → ∀ a w, St G nt E H a w →
      wpOps C.P ops Q (List.range' k l.length) a w
  | [], k, E, H, E', H', _, ht, hq, a, w, hs => by cases ht; simpa [wpOps] using hq a w hs
  | o :: l, k, E, H, E', H', hl, ht, hq, a, w, hs => by
    have ho : ops[k]? = some o := by simpa using hl 0 o (by simp)
    have hom : o ∈ ops.toList := by
      rw [← Array.getElem?_toList] at ho
      exact List.mem_of_getElem? ho
    cases ht with
    | @cons _ _ _ _ v H1 _ _ h1 h2 =>
    obtain ⟨hts, hdf, ρ, hi, he⟩ := hs
    have hrest := fun a w => tr_part (G := G) (nt := nt) hd (l := l) (k := k + 1) (fun j o' ho' => by have := hl (j + 1) o' (by simpa using ho'); simpa [Nat.add_assoc, Nat.add_comm 1 j] using this) h2 hq a w
    rw [List.length_cons, List.range'_succ]
    simp only [wpOps, ho]
    rcases h1 with ⟨hg, hop⟩ | ⟨hg, rfl, rfl⟩
    · rw [hg.wanted fun t _ => he t]
      simp only [if_true]
      left
      exact hop.1 G o rfl rfl rfl ρ a w _ _ hi (fun t _ => he t) fun x w' ρ' h3 h4 h5 => hrest _ _ (St.put hts hdf he (dstOk_spec hd hom) h3 h4 h5)
    · rw [hg.wanted fun t _ => he t]
      simp only [Bool.false_eq_true, if_false]
      exact hrest _ _ (St.put hts hdf he (dstOk_spec hd hom) hi (Ext.refl _ _ _) ⟨[], rfl, trivial⟩)

/-- The entry at a world. -/
abbrev entV (ρ : Nat → Nat) (H : Heap) (V : World) : Ent := ⟨ρ, V, shs H, [], fun _ => True, []⟩
theorem entV_len (ρ : Nat → Nat) (H : Heap) (V : World) : (entV ρ H V).S.length = H.length := shs_length
theorem entV_inv {ρ : Nat → Nat} {H : Heap} {V : World} (h : Rel ρ H V) : Inv (entV ρ H V) ρ H V :=
  ⟨h, rfl, rfl, rfl, Nat.le_refl _, fun _ _ _ _ => rfl, fun _ => Nat.le_refl _, fun _ _ => rfl, fun i h1 h2 _ => by rw [entV_len] at h1; omega, List.prefix_refl _⟩
theorem entV_grown {ρ ρ2 : Nat → Nat} {H H2 : Heap} {V V' : World} (h : Inv (entV ρ H V) ρ2 H2 V') : V.grownBy V' none :=
  ⟨h.os, h.tape, h.out, h.size, fun b hb _ => h.old b trivial hb fun i hi => by simp at hi⟩

/-- At a world: the list's blocks, the temporaries. -/
structure AtV (ρ : Nat → Nat) (H : Heap) (nt : Nat) (E : Env) (a : Act) (V : World) : Prop where
  rel : Rel ρ H V
  nt : a.tmps.size = nt
  df : a.defers = []
  tm : ∀ t, Rv ρ (shs H) V (look E t) (a.tmps.getD t undef)
theorem AtV.st {ρ H nt E a V} (h : AtV ρ H nt E a V) : St (entV ρ H V) nt (look E) H a V := ⟨h.nt, h.df, ρ, entV_inv h.rel, h.tm⟩
theorem AtV.of {ρ H nt E a V V'} (h : St (entV ρ H V) nt (look E) H a V') : AtV ρ H nt E a V' := by
  obtain ⟨h1, h2, ρ2, h3, h4⟩ := h
  have hp : ∀ i, i < H.length → ρ i = ρ2 i := fun i hi => (h3.pre i (by rw [entV_len]; exact hi)).symm
  exact ⟨Rel_same h3.rel hp, h1, h2, fun t => (h4 t).mono ⟨fun i hi => hp i (by rw [shs_length] at hi; exact hi), List.prefix_refl _, fun _ => Nat.le_refl _⟩⟩

theorem iter_rule {α : Type} {C : Ctx} (hC : C.Ok) {n f nt tc ta tb ty tn tk : Nat} {fn : Func} {c0 c1 c2 : Code} {rid : Nat} {pre : List Oper} {oy on : Oper} {ops : Array Oper} {tnot : TypeId} {H0 : Heap} {ρ : Nat → Nat} {w : World} {xs : List α} {lbA : List AV} {lb : List Value} {EE : Nat → Env} {a1 a2 : α → AV} {encs : α → Array Value} {ats : Array TypeId}
    (hf : C.P.funcs[f]? = some fn) (hb : fn.body = some (.seq c0 (.block 0 (.loop (.seq (.seq c1 (.cond (.tmp tk) .skip (.exit 0))) (.seq (.block 1 (.seq (.region rid ops false) (.cond (.tmp tn) .ret .skip))) c2))))))
    (hops : ops.toList = pre ++ [oy, on]) (hy1 : oy.op = .call ⟨.value (.tmp tc), #[.tmp ta, .tmp tb], ats⟩) (hy2 : oy.guard = none) (hy3 : oy.dst = some ty) (hn1 : on.op = .unOp .not tnot (.tmp ty)) (hn2 : on.guard = none) (hn3 : on.dst = some tn)
    (hnt : fn.ntmps = nt) (hres : fn.results = #[]) (hargs : lbA.length + 1 ≤ nt) (hdst : dstOk nt ops.toList = true) (hpl : plainOps ops = true)
    (hok0 : codeOk C nt c0 = true) (hok1 : codeOk C nt c1 = true) (hok2 : codeOk C nt c2 = true) (hpl0 : codePlain c0 = true) (hpl1 : codePlain c1 = true) (hpl2 : codePlain c2 = true)
    (hrel : Rel ρ H0 w) (hc : ∀ B ∈ H0, B.isC = true) (hlb : Rvs ρ (shs H0) w lbA lb)
    (henc : ∀ x ρ S w v1 v2, Rv ρ S w (a1 x) v1 → Rv ρ S w (a2 x) v2 → encs x = #[v1, v2])
    (hEE : ∀ k, ∀ p ∈ EE k, p.1 ≠ 0 ∧ ∀ ρ S w w' x, Rv ρ S w p.2 x → Rv ρ S w' p.2 x)
    (h0 : ∀ y, acode C H0.length [] c0 (argE (.raw y :: lbA) 0) H0 fun ex E1 H1 => ex = .normal ∧ WeakS H0.length E1 H1 ((0, .raw y) :: EE 0) H0)
    (h1 : ∀ y k, k ≤ xs.length → acode C H0.length [] c1 ((0, .raw y) :: EE k) H0 fun ex E1 H1 => ex = .normal ∧ look E1 tk = .bool (decide (k < xs.length)) ∧ WeakS H0.length E1 H1 ((0, .raw y) :: EE k) H0)
    (h2 : ∀ y k, k < xs.length → acode C H0.length [] c2 ((0, .raw y) :: EE k) H0 fun ex E1 H1 => ex = .normal ∧ WeakS H0.length E1 H1 ((0, .raw y) :: EE (k + 1)) H0)
    (h3 : ∀ y k (hk : k < xs.length), aops C H0.length [] ops.toList pre ((0, .raw y) :: EE k) H0 fun E1 H1 => H1 = H0 ∧ look E1 tc = .raw y ∧ look E1 ta = a1 xs[k] ∧ look E1 tb = a2 xs[k] ∧ ∀ p ∈ ((0, AV.raw y) :: EE k), look E1 p.1 = look ((0, AV.raw y) :: EE k) p.1)
    (hty : ty < nt) (htn : tn < nt) (hfr : ty ≠ 0 ∧ tn ≠ 0 ∧ tn ≠ ty ∧ ∀ k, ∀ p ∈ EE k, p.1 ≠ ty ∧ p.1 ≠ tn) :
    SeqGoes n C.P f lb.toArray encs (fun W W' => Rel ρ H0 W → Rel ρ H0 W') (fun ys => ys = xs) xs.length w := by
  intro l J W hW hJ hY hJ0
  obtain ⟨y, hyv⟩ : ∃ y : Value, y = .func (.yield l) #[] #[] := ⟨_, rfl⟩
  have hrelW : Rel ρ H0 W := Rel_below hrel hc hW
  have hbz : ∀ b, bsz w b ≤ bsz W b := bsz_below hW
  have hlbW : Rvs ρ (shs H0) W (.raw y :: lbA) (y :: lb) := ⟨rfl, hlb.mono ⟨fun _ _ => rfl, List.prefix_refl _, hbz⟩⟩
  have hlen := (Rvs_get 0 hlbW).1
  simp only [List.length_cons] at hlen
  refine callsIn_of_wp hf hb trivial ?_ rfl
  have hA0 : AtV ρ H0 nt (argE (.raw y :: lbA) 0) { tmps := (#[.func (.yield l) #[] #[]] ++ lb.toArray) ++ Array.replicate (fn.ntmps - (#[Value.func (.yield l) #[] #[]] ++ lb.toArray).size) undef, defers := [] } W := by
    rw [← hyv, show #[y] ++ lb.toArray = (y :: lb).toArray by simp]
    refine ⟨hrelW, ?_, rfl, fun t => ?_⟩
    · simp only [Array.size_append, Array.size_replicate, List.size_toArray, List.length_cons]; omega
    · rw [look_argE]
      simp only [Nat.zero_le, if_true, Nat.sub_zero]
      have h1 := (Rvs_get t hlbW).2
      by_cases ht : t < (y :: lb).length
      · have : ((y :: lb).toArray ++ Array.replicate (fn.ntmps - (y :: lb).toArray.size) undef).getD t undef = (y :: lb).getD t undef := by
          simp only [Array.getD_eq_getD_getElem?, Array.getElem?_append, List.size_toArray, if_pos ht, List.getD_eq_getElem?_getD, List.getElem?_toArray]
        rw [this]; exact h1
      · have : (AV.raw y :: lbA).getD t .junk = .junk := by simp only [List.getD_eq_getElem?_getD]; rw [List.getElem?_eq_none (by simp only [List.length_cons] at ht ⊢; omega)]; rfl
        rw [this]; trivial
  have piece : ∀ {c : Code} {E : Env} {Q : AEx → Env → Heap → Prop} {m : Nat}, codeOk C nt c = true → codePlain c = true → acode C H0.length [] c E H0 Q → ∀ a V, AtV ρ H0 nt E a V →
      c.wpIn (RF none) m C.P (fun e a' V' => ∃ x E1 H1, e = x.toExit ∧ Q x E1 H1 ∧ St (entV ρ H0 V) nt (look E1) H1 a' V' ∧ V.grownBy V' none) a V := by
    intro c E Q m hk hp h a V hA
    rw [← entV_len ρ H0 V] at h
    refine wpIn_mono (acode_in hC hk hp h a V hA.st) ?_
    rintro e a' V' ⟨x, E1, H1, h1, h2, h3⟩
    refine ⟨x, E1, H1, h1, h2, h3, ?_⟩
    obtain ⟨_, _, ρ2, h4, _⟩ := h3
    exact entV_grown h4
  have weak : ∀ {E1 E2 : Env} {H1 : Heap} {a : Act} {V V' : World}, St (entV ρ H0 V) nt (look E1) H1 a V' → WeakS H0.length E1 H1 E2 H0 → AtV ρ H0 nt E2 a V' := fun hs hw => AtV.of (hw.sound (entV_len _ _ _) hs)
  have grow : ∀ {s : List α} {V V' : World}, J s V → V.grownBy V' none → J s V' := fun hj hg => hJ _ _ _ none hj hg fun r e => by cases e
  refine wpIn_seq (wpIn_mono (piece hok0 hpl0 (h0 y) _ W hA0) ?_)
  rintro e a V ⟨x, E1, H1, rfl, ⟨rfl, hw⟩, hs, hg⟩
  have hA1 := weak hs hw
  have hJ1 := grow hJ0 hg
  clear hs hg hA0 hlbW hJ0 hw
  show (Code.block 0 _).wpIn _ _ _ _ a V
  refine wpIn_block ?_
  let I : Nat → Act → World → Prop := fun j a V => ∃ k, k ≤ xs.length ∧ xs.length - k = j ∧ AtV ρ H0 nt ((0, .raw y) :: EE k) a V ∧ J (xs.take k) V
  have hleast : ∀ a w, (∃ k, I k a w) → ∃ k, I k a w ∧ ∀ m, I m a w → k ≤ m := fun a w ⟨k, hk⟩ => exists_least (fun k => I k a w) k hk
  let ν : Act → World → Nat := fun a w => by classical exact if h : ∃ k, I k a w then Classical.choose (hleast a w h) else 0
  have hν : ∀ a w (h : ∃ k, I k a w), I (ν a w) a w ∧ ∀ m, I m a w → ν a w ≤ m := by
    intro a w h
    have : ν a w = Classical.choose (hleast a w h) := by simp only [ν]; rw [dif_pos h]
    rw [this]
    exact Classical.choose_spec (hleast a w h)
  refine wpIn_loop (fun a w => ∃ k, I k a w) ν ⟨xs.length - 0, 0, Nat.zero_le _, rfl, hA1, hJ1⟩ ?_
  clear hA1 hJ1 a V E1 H1
  intro a V hI
  obtain ⟨⟨k, hk, hkν, hA, hJk⟩, _⟩ := hν a V hI
  clear hI
  refine wpIn_seq (wpIn_seq (wpIn_mono (piece hok1 hpl1 (h1 y k hk) a V hA) ?_))
  rintro e a1' V1 ⟨x, E1, H1, rfl, ⟨rfl, hlk, hw⟩, hs, hg⟩
  have hA1 := weak hs hw
  have hJ1 := grow hJk hg
  have hcv : a1'.eval (.tmp tk) = .bool (decide (k < xs.length)) := by
    obtain ⟨_, _, ρ2, _, he⟩ := hs
    have := he tk
    rw [hlk] at this
    exact this
  clear hs hg hA hJk hw
  show (Code.cond (.tmp tk) .skip (.exit 0)).wpIn _ _ _ _ a1' V1
  refine wpIn_cond hcv ?_
  rcases Nat.lt_or_ge k xs.length with hlt | hge
  rotate_left
  · have hlt : ¬ k < xs.length := by omega
    rw [decide_eq_false hlt]
    refine wpIn_exit ?_
    simp only [Exit.then, Exit.inBlock, if_true]
    refine bodyPost_end (results_none hres _ _ _) hA1.df ⟨⟨_, rfl⟩, xs, rfl, ?_⟩
    rwa [List.take_of_length_le (by omega)] at hJ1
  rw [decide_eq_true hlt]
  refine wpIn_skip ?_
  show (Code.seq (.block 1 _) c2).wpIn _ _ _ _ a1' V1
  refine wpIn_seq (wpIn_block (wpIn_seq (wpIn_region ?_)))
  -- the region with the call
  have h3' := h3 y k hlt
  rw [← entV_len ρ H0 V1] at h3'
  obtain ⟨E', H', htr, hQ⟩ := aops_tr hC (show aops C (entV ρ H0 V1).S.length (entV ρ H0 V1).W ops.toList pre ((0, .raw y) :: EE k) H0 _ from h3')
  obtain ⟨rfl, hq1, hq2, hq3, hq4⟩ := hQ
  have hsz : ops.size = pre.length + 2 := by have := congrArg List.length hops; simpa using this
  have hget : ∀ j (o : Oper), pre[j]? = some o → ops[0 + j]? = some o := fun j o ho => by
    rw [Nat.zero_add, ← Array.getElem?_toList, hops, List.getElem?_append_left (get_lt ho)]; exact ho
  have hgy : ops[pre.length]? = some oy := by rw [← Array.getElem?_toList, hops, List.getElem?_append_right (Nat.le_refl _)]; simp
  have hgn : ops[pre.length + 1]? = some on := by rw [← Array.getElem?_toList, hops, List.getElem?_append_right (by omega)]; simp
  have hrg : List.range ops.size = List.range' 0 pre.length ++ [pre.length, pre.length + 1] := by
    rw [hsz, List.range_eq_range', ← List.range'_append_1]
    simp [List.range'_succ]
  have htr' : Tr C (entV ρ H' V1).S.length (entV ρ H' V1).W ops pre (look ((0, .raw y) :: EE k)) H' (look E') H' := by simpa using htr
  have hwp := tr_part (G := entV ρ H' V1) (nt := nt) hdst (Q := fun e a' V' => e = .normal ∧ St (entV ρ H' V1) nt (look E') H' a' V') hget htr' (fun a w hs => ⟨rfl, hs⟩) a1' V1 hA1.st
  rw [hrg]
  refine ops_in hpl ?_ (fun c a w h => by cases h.1) (fun a w h => by cases h.1) _ _ _ hwp
  rintro a2' V2 ⟨_, hs2⟩
  have hA2 : AtV ρ H' nt E' a2' V2 := AtV.of hs2
  have hJ2 : J (xs.take k) V2 := by
    obtain ⟨_, _, ρ2, h4, _⟩ := hs2
    exact grow hJ1 (entV_grown h4)
  obtain ⟨fn', tmps', assign, body, hrun, hround⟩ := hY (xs.take k) xs[k] V2 hJ2 (by rw [List.length_take]; omega)
  have hva := hA2.tm ta
  have hvb := hA2.tm tb
  have hvc := hA2.tm tc
  rw [hq2] at hva
  rw [hq3] at hvb
  rw [hq1] at hvc
  have henc' := henc _ _ _ _ _ _ hva hvb
  have hwant : ∀ (o : Oper) f, o.guard = none → Region.wanted o f = true := fun o f h => by simp [Region.wanted, h]
  simp only [wpOpsIn, hgy, hgn, hwant oy _ hy2, hwant on _ hn2, if_true]
  refine ⟨fun _ _ => trivial, ?_⟩
  rw [Oper.semAt_eq _ _ _ (fun c h => by rw [hy1] at h; cases h)]
  have hexec : (execOp a2'.eval oy).run C.P V2 = .ok (.round l fn' tmps' assign body) V2 := by
    rw [execOp.eq_1]
    have hvc' : a2'.eval (.tmp tc) = .func (.yield l) #[] #[] := by rw [← hyv]; exact hvc
    have hargs' : (#[Operand.tmp ta, Operand.tmp tb] : Array Operand).map a2'.eval = encs xs[k] := by rw [henc', List.map_toArray]; rfl
    simp only [hy1, resolve, hvc', Deferred.ofValue, Sem.run_bind, Sem.run_pure, Result.andThen_ok, invoke]
    simp only [Array.empty_append, Array.append_empty, hargs']
    exact hrun
  rw [hexec, Oper.uponIn_round]
  refine ⟨fun h => by simp [RF, Fence.wide] at h, hround.mono ?_⟩
  rintro e V3 ⟨rfl, hJ3, hk3⟩
  have hr3 : Rel ρ H' V3 := hk3 hA2.rel
  have hA3 : AtV ρ H' nt ((ty, .bool true) :: (0, .raw y) :: EE k) (a2'.put oy.dst (.bool true)) V3 := by
    rw [hy3]
    have hkeep : ∀ t, t ≠ ty → Rv ρ (shs H') V3 (look ((0, .raw y) :: EE k) t) (a2'.tmps.getD t undef) := by
      intro t _
      by_cases hm : ∃ v, (t, v) ∈ ((0, AV.raw y) :: EE k)
      · obtain ⟨v, hm⟩ := hm
        have h5 := hq4 _ hm
        simp only at h5
        have h6 := hA2.tm t
        rw [h5] at h6
        have hin : ∀ L : Env, (∀ p ∈ L, ∀ ρ S w w' x, Rv ρ S w p.2 x → Rv ρ S w' p.2 x) → ∀ {x : Value}, Rv ρ (shs H') V2 (look L t) x → Rv ρ (shs H') V3 (look L t) x := by
          intro L
          induction L with
          | nil => intro _ x _; trivial
          | cons p L ih =>
            obtain ⟨s, u⟩ := p
            intro hL x hx
            simp only [look] at hx ⊢
            by_cases hst : s = t
            · rw [if_pos hst] at hx ⊢; exact hL _ List.mem_cons_self _ _ _ _ _ hx
            · rw [if_neg hst] at hx ⊢; exact ih (fun p hp => hL p (List.mem_cons_of_mem _ hp)) hx
        refine hin _ (fun p hp => ?_) h6
        rcases List.mem_cons.1 hp with rfl | hp
        · intro _ _ _ _ _ h; exact h
        · exact (hEE k p hp).2
      · have : ∀ L : Env, (¬ ∃ v, (t, v) ∈ L) → look L t = .junk := by
          intro L
          induction L with
          | nil => intro _; rfl
          | cons p L ih =>
            obtain ⟨s, u⟩ := p
            intro hn
            simp only [look]
            rw [if_neg fun e => hn ⟨u, by rw [e]; exact List.mem_cons_self⟩]
            exact ih fun ⟨v, hv⟩ => hn ⟨v, List.mem_cons_of_mem _ hv⟩
        rw [this _ hm]; trivial
    refine ⟨hr3, by simp [Act.put, hA2.nt], hA2.df, fun t => ?_⟩
    show Rv ρ _ V3 _ ((a2'.tmps.setIfInBounds ty (.bool true)).getD t undef)
    rw [tset_get (by rw [hA2.nt]; exact hty)]
    by_cases ht : t = ty
    · subst ht; simp only [look, if_true]; rfl
    · rw [if_neg ht]
      have : look ((ty, .bool true) :: (0, .raw y) :: EE k) t = look ((0, .raw y) :: EE k) t := by simp only [look]; rw [if_neg fun e => ht e.symm]
      rw [this]
      exact hkeep t ht
  -- 'not'
  have hE3 : ∀ t, Rv ρ (shs H') V3 (look ((ty, .bool true) :: (0, .raw y) :: EE k) t) ((a2'.put oy.dst (.bool true)).tmps.getD t undef) := hA3.tm
  have hop : on.wp C.P (a2'.put oy.dst (.bool true)) V3 (fun a4 V4 => AtV ρ H' nt ((tn, .bool false) :: (0, .raw y) :: EE k) a4 V4 ∧ V3.grownBy V4 none) (fun _ _ _ => False) := by
    refine step_not (G := entV ρ H' V3) (H := H') (a := true) hn1 (by simp [ev, look]) ρ _ _ _ _ (entV_inv hr3) (fun t _ => hE3 t) ?_
    intro x w' ρ' h4 h5 h6
    refine ⟨AtV.of (V := V3) ?_, entV_grown h4⟩
    have hst := St.put (d := some tn) (E := look ((ty, .bool true) :: (0, .raw y) :: EE k)) (nt := nt) (G := entV ρ H' V3) hA3.nt hA3.df hE3 (fun t h => by cases h; exact htn) h4 h5 h6
    rw [← hn3] at hst
    obtain ⟨s1, s2, ρ3, s3, s4⟩ := hst
    refine ⟨s1, s2, ρ3, s3, fun t => ?_⟩
    have h7 := s4 t
    rw [hn3] at h7 ⊢
    simp only [updE] at h7
    by_cases ht : t = tn
    · subst ht; rw [if_pos rfl] at h7; simp only [look, if_true]; exact h7
    · rw [if_neg ht] at h7
      by_cases ht2 : t = ty
      · subst ht2
        have : look ((tn, .bool false) :: (0, .raw y) :: EE k) t = .junk := by
          have hn : ∀ L : Env, (∀ p ∈ L, p.1 ≠ t) → look L t = .junk := by
            intro L
            induction L with
            | nil => intro _; rfl
            | cons p L ih =>
              obtain ⟨s, u⟩ := p
              intro hn
              simp only [look]
              rw [if_neg (hn _ List.mem_cons_self)]
              exact ih fun p hp => hn p (List.mem_cons_of_mem _ hp)
          refine hn _ fun p hp => ?_
          rcases List.mem_cons.1 hp with rfl | hp
          · exact fun e => ht e.symm
          · rcases List.mem_cons.1 hp with rfl | hp
            · exact fun e => hfr.1 e.symm
            · exact (hfr.2.2.2 k p hp).1
        rw [this]; trivial
      · have : look ((tn, .bool false) :: (0, .raw y) :: EE k) t = look ((ty, .bool true) :: (0, .raw y) :: EE k) t := by
          simp only [look]; rw [if_neg (show ¬ tn = t from fun e => ht e.symm), if_neg (show ¬ ty = t from fun e => ht2 e.symm)]
        rw [this]; exact h7
  refine oper_in (fun c h => by rw [hn1] at h; cases h) ?_ (fun _ _ _ h => h.elim) (fun _ _ h => h) hop
  rintro a4 V4 ⟨hA4, hg4⟩
  show (Code.cond (.tmp tn) .ret .skip).wpIn _ _ _ _ a4 V4
  have hcn : a4.eval (.tmp tn) = .bool false := by have := hA4.tm tn; simp only [look, if_true] at this; exact this
  refine wpIn_cond hcn (wpIn_skip ?_)
  show c2.wpIn _ _ _ _ a4 V4
  have hA5 : AtV ρ H' nt ((0, .raw y) :: EE k) a4 V4 := by
    refine ⟨hA4.rel, hA4.nt, hA4.df, fun t => ?_⟩
    by_cases ht : t = tn
    · subst ht
      have : look ((0, .raw y) :: EE k) t = .junk := by
        have hn : ∀ L : Env, (∀ p ∈ L, p.1 ≠ t) → look L t = .junk := by
          intro L
          induction L with
          | nil => intro _; rfl
          | cons p L ih =>
            obtain ⟨s, u⟩ := p
            intro hn
            simp only [look]
            rw [if_neg (hn _ List.mem_cons_self)]
            exact ih fun p hp => hn p (List.mem_cons_of_mem _ hp)
        refine hn _ fun p hp => ?_
        rcases List.mem_cons.1 hp with rfl | hp
        · exact fun e => hfr.2.1 e.symm
        · exact (hfr.2.2.2 k p hp).2
      rw [this]; trivial
    · have h8 := hA4.tm t
      have : look ((tn, .bool false) :: (0, .raw y) :: EE k) t = look ((0, .raw y) :: EE k) t := by simp only [look]; rw [if_neg fun e => ht e.symm]
      rwa [this] at h8
  refine wpIn_mono (piece hok2 hpl2 (h2 y k hlt) a4 V4 hA5) ?_
  rintro e a5 V5 ⟨x, E5, H5, rfl, ⟨rfl, hw5⟩, hs5, hg5⟩
  have hA6 := weak hs5 hw5
  have hI' : I (xs.length - (k + 1)) a5 V5 := ⟨k + 1, by omega, rfl, hA6, by
    have := grow (grow hJ3 hg4) hg5
    rwa [List.take_append_getElem hlt] at this⟩
  refine ⟨⟨_, hI'⟩, ?_⟩
  have := (hν a5 V5 ⟨_, hI'⟩).2 _ hI'
  omega
theorem iter_rule' {α : Type} {C : Ctx} (hC : C.Ok) {n f nt tc ta tb ty tn tk : Nat} {fn : Func} {c0 c1 c2 : Code} {rid : Nat} (j : Nat) {oy on : Oper} {ops : Array Oper} {tnot : TypeId} {H0 : Heap} {ρ : Nat → Nat} {w : World} {xs : List α} {lbA : List AV} {lb : List Value} {EE : Nat → Env} {a1 a2 : α → AV} {encs : α → Array Value} {ats : Array TypeId}
    (hf : C.P.funcs[f]? = some fn) (hb : fn.body = some (.seq c0 (.block 0 (.loop (.seq (.seq c1 (.cond (.tmp tk) .skip (.exit 0))) (.seq (.block 1 (.seq (.region rid ops false) (.cond (.tmp tn) .ret .skip))) c2))))))
    (hops : ops.toList.drop j = [oy, on]) (hy1 : oy.op = .call ⟨.value (.tmp tc), #[.tmp ta, .tmp tb], ats⟩) (hy2 : oy.guard = none) (hy3 : oy.dst = some ty) (hn1 : on.op = .unOp .not tnot (.tmp ty)) (hn2 : on.guard = none) (hn3 : on.dst = some tn)
    (hnt : fn.ntmps = nt) (hres : fn.results = #[]) (hargs : lbA.length + 1 ≤ nt) (hdst : dstOk nt ops.toList = true) (hpl : plainOps ops = true)
    (hok0 : codeOk C nt c0 = true) (hok1 : codeOk C nt c1 = true) (hok2 : codeOk C nt c2 = true) (hpl0 : codePlain c0 = true) (hpl1 : codePlain c1 = true) (hpl2 : codePlain c2 = true)
    (hrel : Rel ρ H0 w) (hc : ∀ B ∈ H0, B.isC = true) (hlb : Rvs ρ (shs H0) w lbA lb)
    (henc : ∀ x ρ S w v1 v2, Rv ρ S w (a1 x) v1 → Rv ρ S w (a2 x) v2 → encs x = #[v1, v2])
    (hEE : ∀ k, ∀ p ∈ EE k, p.1 ≠ 0 ∧ ∀ ρ S w w' x, Rv ρ S w p.2 x → Rv ρ S w' p.2 x)
    (hfr : ty < nt ∧ tn < nt ∧ ty ≠ 0 ∧ tn ≠ 0 ∧ tn ≠ ty ∧ ∀ k, ∀ p ∈ EE k, p.1 ≠ ty ∧ p.1 ≠ tn)
    (h0 : ∀ y, force H0.length fun n => force (argE (.raw y :: lbA) 0) fun E => acode C n [] c0 E H0 fun ex E1 H1 => ex = .normal ∧ WeakS H0.length E1 H1 ((0, .raw y) :: EE 0) H0)
    (h1 : ∀ y k, k ≤ xs.length → force H0.length fun n => acode C n [] c1 ((0, .raw y) :: EE k) H0 fun ex E1 H1 => ex = .normal ∧ look E1 tk = .bool (decide (k < xs.length)) ∧ WeakS H0.length E1 H1 ((0, .raw y) :: EE k) H0)
    (h2 : ∀ y k, k < xs.length → force H0.length fun n => acode C n [] c2 ((0, .raw y) :: EE k) H0 fun ex E1 H1 => ex = .normal ∧ WeakS H0.length E1 H1 ((0, .raw y) :: EE (k + 1)) H0)
    (h3 : ∀ y k (hk : k < xs.length), force H0.length fun n => force ops.toList fun l => force (l.take j) fun pre => aops C n [] l pre ((0, .raw y) :: EE k) H0 fun E1 H1 => H1 = H0 ∧ look E1 tc = .raw y ∧ look E1 ta = a1 xs[k] ∧ look E1 tb = a2 xs[k] ∧ ∀ p ∈ ((0, AV.raw y) :: EE k), look E1 p.1 = look ((0, AV.raw y) :: EE k) p.1) :
    SeqGoes n C.P f lb.toArray encs (fun W W' => Rel ρ H0 W → Rel ρ H0 W') (fun ys => ys = xs) xs.length w :=
  iter_rule hC hf hb (by rw [← hops, List.take_append_drop]) hy1 hy2 hy3 hn1 hn2 hn3 hnt hres hargs hdst hpl hok0 hok1 hok2 hpl0 hpl1 hpl2 hrel hc hlb henc hEE h0 h1 h2 h3 hfr.1 hfr.2.1 hfr.2.2
end Ink
/- A function that holds a range over a function: from its pieces to its contract. No conditions. -/
namespace Ink
open Go Go.RowKit

/-- How a function may end that may have left a mark among its deferred calls. -/
def finM (C : Ctx) (G : Ent) (nt : Nat) (rs : List ResultVar) (v : AV) (H' : Heap) : Exit → Act → World → Prop := fun e a w =>
  (e = .normal ∨ e = .ret) ∧ ∃ (E : Env) (H2 : Heap) (ρ2 : Nat → Nat), a.tmps.size = nt ∧ (a.defers = [] ∨ ∃ D, a.defers = [{ target := .collected D, args := #[] }] ∧ w.heap[D]? = some (.deferred (some [])) ∧ G.w.heap.size ≤ D ∧ ∀ B ∈ H2, B.isC = true) ∧
    Inv G ρ2 H2 w ∧ (∀ t, Rv ρ2 (shs H2) w (look E t) (a.tmps.getD t undef)) ∧ ares C E H2 rs fun l => fin G.S.length (one l) H2 v H'

theorem acall_marks {C : Ctx} (hC : C.Ok) {f : FuncId} {fn : Func} {c : Code} {W : List Nat} {args : List AV} {H H' : Heap} {v : AV} (hf : C.P.funcs[f]? = some fn) (hb : fn.body = some c)
    (hname : (fn.name == "runtime.NumGoroutine") = false) {rs : List ResultVar} (hrs : fn.results.toList = rs) (hargs : args.length ≤ fn.ntmps) {k : Nat}
    (h : ∀ ρ w a, St ⟨ρ, w, shs H, W, fun _ => True, []⟩ fn.ntmps (look (argE args 0)) H a w → c.wpIn (RF none) k C.P (finM C ⟨ρ, w, shs H, W, fun _ => True, []⟩ fn.ntmps rs v H') a w) : ACall C.P W f args H v H' := by
  subst hrs
  refine ⟨⟨fn, hf, hname, by simp [hb]⟩, fun ρ w vs hrel hvs => ?_⟩
  have hlen := (Rvs_get 0 hvs).1
  have hn : (shs H).length = H.length := shs_length
  have hinv : Inv ⟨ρ, w, shs H, W, fun _ => True, []⟩ ρ H w := ⟨hrel, rfl, rfl, rfl, Nat.le_refl _, fun _ _ _ _ => rfl, fun _ => Nat.le_refl _, fun _ _ => rfl, fun i h1 h2 _ => by simp only [hn] at h1; omega, List.prefix_refl _⟩
  have hst : St ⟨ρ, w, shs H, W, fun _ => True, []⟩ fn.ntmps (look (argE args 0)) H { tmps := vs.toArray ++ Array.replicate (fn.ntmps - vs.toArray.size) undef, defers := [] } w := by
    refine ⟨by simp; omega, rfl, ρ, hinv, fun t => ?_⟩
    rw [look_argE]
    simp only [Nat.zero_le, if_true, Nat.sub_zero]
    have h1 := (Rvs_get t hvs).2
    by_cases ht : t < vs.length
    · have : (vs.toArray ++ Array.replicate (fn.ntmps - vs.toArray.size) undef).getD t undef = vs.getD t undef := by
        simp [Array.getElem?_append, ht, List.getD]
      rw [this]; exact h1
    · have : args.getD t .junk = .junk := by simp [List.getD, List.getElem?_eq_none (show args.length ≤ t by omega)]
      rw [this]; trivial
  refine (callsIn_wide (n := k)).1 (show CallsIn (RF none) k C.P f vs.toArray w _ from ?_)
  refine callsIn_of_wp_marks hf hb trivial (wpIn_mono (h ρ w _ hst) ?_) rfl
  rintro e a w' ⟨he, E, H2, ρ2, hts, hdf, hi, hv, hr⟩
  have main : LeavesInM (RF none) k C.P fn a.tmps (fun e w' => ∃ x ρ', e = .returned x ∧ Inv ⟨ρ, w, shs H, W, fun _ => True, []⟩ ρ' H' w' ∧ Rv ρ' (shs H') w' v x) a.defers .returning w' := by
    have fin1 : ∀ w2, Inv ⟨ρ, w, shs H, W, fun _ => True, []⟩ ρ2 H2 w2 → (∀ t, Rv ρ2 (shs H2) w2 (look E t) (a.tmps.getD t undef)) → ∃ x, (results fn a.tmps).run C.P w2 = .ok x w2 ∧ ∃ y ρ', Ending.returned x = Ending.returned y ∧ Inv ⟨ρ, w, shs H, W, fun _ => True, []⟩ ρ' H' w2 ∧ Rv ρ' (shs H') w2 v y := by
      intro w2 hi hv
      obtain ⟨l, xs, h1, h2, σ, h3, h4, h5⟩ := ares_sound hC hi hv hr
      obtain ⟨h6, h7⟩ := h3.sound rfl hi
      have hres : ∃ y, (results fn a.tmps).run C.P w2 = .ok y w2 ∧ Rv ρ2 (shs H2) w2 (one l) y := by
        rw [results_eq]
        have hm : (fn.results.mapM (resOne a.tmps)).run C.P w2 = .ok xs.toArray w2 := by
          rw [Array.mapM_eq_mapM_toList, Sem.run_map]
          rw [h1]
          rfl
        rw [Sem.run_bind, hm]
        simp only [Result.andThen_ok, Sem.run_pure]
        by_cases hl1 : xs.toArray.size = 1
        · rw [dif_pos hl1]
          match l, xs, h2 with
          | [v], [x], h2 => exact ⟨x, rfl, h2.1⟩
          | [], [], h2 => simp at hl1
          | _ :: _ :: _, _ :: _ :: _, h2 => simp at hl1
        · rw [dif_neg hl1]
          refine ⟨_, rfl, ?_⟩
          match l, xs, h2 with
          | [v], [x], h2 => simp at hl1
          | [], [], h2 => exact ⟨[], rfl, trivial⟩
          | a :: b :: l, x :: y :: xs, h2 => exact ⟨x :: y :: xs, rfl, h2⟩
      obtain ⟨y, hy1, hy2⟩ := hres
      exact ⟨y, hy1, y, _, rfl, h6, h7 h4 (by rw [← h5]; exact hy2)⟩
    rcases hdf with hdf | ⟨D, hdf, hD, hsz, hc⟩
    · rw [hdf]
      exact fin1 w' hi hv
    · rw [hdf]
      have hgr : w'.grownBy (w'.putObj D (.deferred none)) (some D) := grownBy_putObj' w' D _
      have hrow : ∀ r, some D = some r → w.heap.size ≤ r ∧ ∃ o : Obj, w'.heap[r]? = some o ∧ o.isCells = false := fun r e => by cases e; exact ⟨hsz, _, hD, rfl⟩
      refine ⟨by simp, .inl ⟨D, _, rfl, run_takeDeferred hD, ?_⟩⟩
      exact fin1 _ (hi.turn hc hgr hrow) fun t => (hv t).mono ⟨fun _ _ => rfl, List.prefix_refl _, bsz_turn hgr fun r e => (hrow r e).2⟩
  rcases he with rfl | rfl
  · exact main
  · exact main

/-- What is left for later. -/
structure Later (p : Prop) : Prop where
  out : p

theorem seq_a (n : Nat) (W : List Nat) {C : Ctx} (hC : C.Ok) {G : Ent} {nt k : Nat} {c1 c2 : Code} {E : Env} {H : Heap} {Q : Exit → Act → World → Prop} (hok : codeOk C nt c1 = true) (hpl : codePlain c1 = true)
    (hn : G.S.length = n) (hW : G.W = W) (h : acode C n W c1 E H fun ex E1 H1 => ex = .normal ∧ Later (∀ a w, St G nt (look E1) H1 a w → c2.wpIn (RF none) k C.P Q a w)) : ∀ a w, St G nt (look E) H a w → (Code.seq c1 c2).wpIn (RF none) k C.P Q a w := by
  subst hn hW
  intro a w hs
  refine wpIn_seq (wpIn_mono (acode_in hC hok hpl h a w hs) ?_)
  rintro e a w ⟨x, E, H, rfl, ⟨rfl, hq⟩, hs⟩
  exact hq.out a w hs
theorem one_a (n : Nat) (W : List Nat) {C : Ctx} (hC : C.Ok) {G : Ent} {nt k : Nat} {c1 : Code} {E : Env} {H : Heap} {K : Act → World → Prop} {Q : Exit → Act → World → Prop} (hok : codeOk C nt c1 = true) (hpl : codePlain c1 = true)
    (hn : G.S.length = n) (hW : G.W = W) (h : acode C n W c1 E H fun ex E1 H1 => ex = .normal ∧ Later (∀ a w, St G nt (look E1) H1 a w → K a w)) : ∀ a w, St G nt (look E) H a w → c1.wpIn (RF none) k C.P (Exit.then K Q) a w := by
  subst hn hW
  intro a w hs
  refine wpIn_mono (acode_in hC hok hpl h a w hs) ?_
  rintro e a w ⟨x, E, H, rfl, ⟨rfl, hq⟩, hs⟩
  exact hq.out a w hs

theorem tail_marks (n : Nat) (W : List Nat) {C : Ctx} (hC : C.Ok) {G : Ent} {nt k D : Nat} {c : Code} {E : Env} {H H' : Heap} {rs : List ResultVar} {v : AV} {ρ : Nat → Nat} {a : Act} {w : World}
    (hinv : Inv G ρ H w) (hc : ∀ B ∈ H, B.isC = true) (htm : ∀ t, Rv ρ (shs H) w (look E t) (a.tmps.getD t undef)) (hnt : a.tmps.size = nt) (hdf : a.defers = [{ target := .collected D, args := #[] }])
    (hD : w.heap[D]? = some (.deferred (some []))) (hDs : G.w.heap.size ≤ D) (hok : codeOk C nt c = true) (hpl : codePlain c = true)
    (hn : G.S.length = n) (hW : G.W = W) (h : acode C n W c E H fun ex E2 H2 => (ex = .normal ∨ ex = .ret) ∧ (∀ B ∈ H2, B.isC = true) ∧ ares C E2 H2 rs fun l => fin n (one l) H2 v H') : c.wpIn (RF none) k C.P (finM C G nt rs v H') a w := by
  subst hn hW
  have hl := hinv.len
  have hst := hinv.start hl G.W a.defers
  have hS := shs_take hl
  have hs : St ⟨ρ, w, shs (H.take G.S.length), G.W, apartK ρ H G.S.length, a.defers⟩ nt (look E) H a w := ⟨hnt, rfl, ρ, hst, htm⟩
  rw [← show (Ent.mk ρ w (shs (H.take G.S.length)) G.W (apartK ρ H G.S.length) a.defers).S.length = G.S.length from hS] at h
  refine wpIn_mono (acode_in hC hok hpl h a w hs) ?_
  rintro e a' w' ⟨x, E2, H2, rfl, ⟨hx, hc2, hr⟩, hts, hdf2, ρ2, hi2, hv2⟩
  rw [show (Ent.mk ρ w (shs (H.take G.S.length)) G.W (apartK ρ H G.S.length) a.defers).S.length = G.S.length from hS] at hr
  refine ⟨?_, E2, H2, ρ2, hts, .inr ⟨D, hdf2.trans hdf, hi2.keeps hinv.rel hc hl hD rfl, hDs, hc2⟩, hinv.sub (Nat.le_refl _) hl (fun i hi _ => .inr hi) hi2, hv2, hr⟩
  rcases hx with rfl | rfl
  · exact .inl rfl
  · exact .inr rfl
end Ink
/- A stack turned over. No conditions. -/
namespace Ink
open Go
theorem zbk {σ : Nat → Nat} {x : Value} : ren σ (.raw x) = .raw x := by unfold ren; rfl
theorem zbl {m : Nat} {x : Value} : inScope m (.raw x) = True := by unfold inScope; rfl
theorem lies_win {f : Nat} {σ : Sh} {x : DV} : Lies (.win f σ [x]) [0] f σ x := ⟨by simp [Blk.sh, BSh.at?, Sh.at?], rfl, fun _ _ _ _ h => h⟩
def mirM (s : SheetM) : SheetM := movedM s s.w s.h (mirX s) sameY
def turnL (L : List SheetM) : List SheetM := L.reverse.map mirM
theorem turnL_len {L : List SheetM} : (turnL L).length = L.length := by simp [turnL]
theorem turn_take {L : List SheetM} {k : Nat} (hk : k < L.length) : (turnL L).take (k + 1) = (turnL L).take k ++ [mirM L[L.length - 1 - k]] := by
  have h : k < (turnL L).length := by rw [turnL_len]; exact hk
  rw [← List.take_append_getElem h]
  congr 2
  simp [turnL]
theorem turn_all {L : List SheetM} : (turnL L).take L.length = turnL L := by rw [← turnL_len, List.take_length]
theorem tkD_len {L : List SheetM} {k : Nat} (hk : k ≤ L.length) : (((turnL L).take k).map sheetD).length = k := by simp [turnL_len]; omega
/-- The blocks that an iterator over a list reads. -/
theorem Gd_of {ρ : Nat → Nat} {H : Heap} {W : World} {bx b len : Nat} {e : Sh} {l : List DV} {wr : Bool} (h : Rel ρ H W) (h1 : H[bx]? = some (.ref (.slc b 0 len))) (h2 : H[b]? = some (.seq wr e l)) :
    Rel (fun i => if i = 0 then ρ bx else ρ b) [.ref (.slc 1 0 len), .seq false e l] W := by
  refine ⟨fun i B hi => ?_, fun i j A B hi hj hne hw hl => ?_⟩
  · match i, hi with
    | 0, hi =>
      simp at hi; subst hi
      obtain ⟨v, T, h3, h4⟩ := h.blk bx _ h1
      refine ⟨v, T, h3, ?_⟩
      obtain ⟨e', h5, h6⟩ := h4
      have : e' = e := by rw [shs_get h2] at h5; cases h5; rfl
      subst this
      exact ⟨e', rfl, h6⟩
    | 1, hi =>
      simp at hi; subst hi
      obtain ⟨h3, c, T, fz, h4, h5, _⟩ := h.blk b _ h2
      exact ⟨h3, c, T, fz, h4, h5, fun e => by cases e⟩
    | i + 2, hi => simp at hi
  · have hbb : bx ≠ b := fun e => by rw [e, h2] at h1; cases h1
    match i, j, hi, hj with
    | 0, 0, _, _ => exact absurd rfl hne
    | 0, 1, hi, hj =>
      simp at hi hj; subst hi; subst hj
      exact h.sep bx b _ _ h1 h2 hbb rfl rfl
    | 1, _, hi, _ => simp at hi; subst hi; cases hw
    | i + 2, _, hi, _ => simp at hi
    | 0, j + 2, _, hj => simp at hj
end Ink
/- Texts, row by row; a function that writes them into a builder, walked by the evaluator. No conditions. -/
namespace Ink
open Go Go.RowKit

def rowT (g : Nat → ByteArray) : Nat → ByteArray
  | 0 => ⟨#[]⟩
  | n + 1 => rowT g n ++ g n
def textT (w : Nat) (g : Nat → Nat → ByteArray) : Nat → ByteArray
  | 0 => ⟨#[]⟩
  | y + 1 => textT w g y ++ (rowT (g y) w ++ ⟨#[10]⟩)
theorem ba_size (a b : ByteArray) : (a ++ b).size = a.size + b.size := ByteArray.size_append
theorem ba_assoc (a b c : ByteArray) : a ++ b ++ c = a ++ (b ++ c) := ByteArray.append_assoc
theorem ba_nil (a : ByteArray) : a ++ ⟨#[]⟩ = a := ByteArray.append_empty
theorem nil_ba (a : ByteArray) : ⟨#[]⟩ ++ a = a := ByteArray.empty_append
theorem rowT_size {g : Nat → ByteArray} (hg : ∀ i, (g i).size = 1) : ∀ n, (rowT g n).size = n
  | 0 => rfl
  | n + 1 => by rw [rowT, ba_size, rowT_size hg n, hg]
theorem textT_size {w : Nat} {g : Nat → Nat → ByteArray} (hg : ∀ i j, (g i j).size = 1) : ∀ n, (textT w g n).size = n * (w + 1)
  | 0 => by simp [textT]; rfl
  | n + 1 => by
    rw [textT, ba_size, ba_size, textT_size hg n, rowT_size (hg n), Nat.succ_mul]
    rfl
theorem textT_le {w h : Nat} {g : Nat → Nat → ByteArray} (hg : ∀ i j, (g i j).size = 1) (hw : w ≤ 8) (hh : h ≤ 8) : (textT w g h).size ≤ 72 := by
  rw [textT_size hg]
  calc h * (w + 1) ≤ 8 * 9 := Nat.mul_le_mul hh (by omega)
    _ = 72 := rfl
theorem join_nil : ∀ xs : List (List UInt8), Go.Lib.join xs [] = xs.flatten := by
  intro xs
  unfold Go.Lib.join
  induction xs with
  | nil => simp [List.intercalate]
  | cons x xs ih =>
    cases xs with
    | nil => simp [List.intercalate]
    | cons y ys => simpa [List.intercalate, List.intersperse] using ih
theorem rowT_bytes {g : Nat → ByteArray} : ∀ n, (rowT g n).data.toList = ((List.range n).map fun i => (g i).data.toList).flatten
  | 0 => rfl
  | n + 1 => by
    rw [rowT, ByteArray.data_append, Array.toList_append, rowT_bytes n, List.range_succ]
    simp
theorem ba_ext {a b : ByteArray} (h : a.data.toList = b.data.toList) : a = b := by
  cases a; cases b; simp only [ByteArray.mk.injEq]; exact Array.ext' h

/-! ### What reads the same in every world -/
def still1 : AV → Bool
  | .int _ _ => true
  | .bool _ => true
  | .str _ => true
  | .agg _ _ => true
  | .ptr _ _ _ => true
  | .raw _ => true
  | .nilp => true
  | _ => false
def still : AV → Bool
  | .fn _ a b => a.all still1 && b.all still1
  | a => still1 a
theorem still1_Rv {a : AV} (h : still1 a = true) {ρ : Nat → Nat} {S : List BSh} {w w' : World} {x : Value} (hr : Rv ρ S w a x) : Rv ρ S w' a x := by
  cases a <;> first | exact hr | cases h
theorem still1_Rvs : ∀ {l : List AV} {vs : List Value}, l.all still1 = true → ∀ {ρ : Nat → Nat} {S : List BSh} {w w' : World}, Rvs ρ S w l vs → Rvs ρ S w' l vs
  | [], [], _, _, _, _, _, h => h
  | a :: l, v :: vs, hp, _, _, _, _, h => by
    simp only [List.all_cons, Bool.and_eq_true] at hp
    exact ⟨still1_Rv hp.1 h.1, still1_Rvs hp.2 h.2⟩
  | [], _ :: _, _, _, _, _, _, h => h.elim
  | _ :: _, [], _, _, _, _, _, h => h.elim
theorem still_Rv {a : AV} (h : still a = true) {ρ : Nat → Nat} {S : List BSh} {w w' : World} {x : Value} (hr : Rv ρ S w a x) : Rv ρ S w' a x := by
  cases a with
  | fn f a b =>
    simp only [still, Bool.and_eq_true] at h
    obtain ⟨vs, ws, h1, h2, h3⟩ := hr
    exact ⟨vs, ws, h1, still1_Rvs h.1 h2, still1_Rvs h.2 h3⟩
  | _ => first | exact hr | (simp [still, still1] at h)

theorem look_none {t : Nat} : ∀ {L : Env}, (∀ p ∈ L, p.1 ≠ t) → look L t = .junk
  | [], _ => rfl
  | (s, u) :: L, h => by
    simp only [look]
    rw [if_neg (h _ List.mem_cons_self)]
    exact look_none fun p hp => h p (List.mem_cons_of_mem _ hp)
theorem look_still {ρ : Nat → Nat} {S : List BSh} {w w' : World} {t : Nat} {x : Value} : ∀ {L : Env}, (∀ p ∈ L, still p.2 = true) → Rv ρ S w (look L t) x → Rv ρ S w' (look L t) x
  | [], _, _ => trivial
  | (s, u) :: L, h, hr => by
    simp only [look] at hr ⊢
    by_cases e : s = t
    · rw [if_pos e] at hr ⊢; exact still_Rv (h _ List.mem_cons_self) hr
    · rw [if_neg e] at hr ⊢; exact look_still (fun p hp => h p (List.mem_cons_of_mem _ hp)) hr
theorem AtV.putJ {ρ H nt E a V} (h : AtV ρ H nt E a V) {d : Nat} (hd : ∀ p ∈ E, p.1 ≠ d) (v : Value) : AtV ρ H nt E (a.put (some d) v) V := by
  refine ⟨h.rel, by simp [Act.put, h.nt], h.df, fun t => ?_⟩
  show Rv ρ _ V _ ((a.tmps.setIfInBounds d v).getD t undef)
  by_cases ht : t = d
  · subst ht; rw [look_none hd]; trivial
  · have : (a.tmps.setIfInBounds d v).getD t undef = a.tmps.getD t undef := by
      simp [Array.getElem?_setIfInBounds, Ne.symm ht]
    rw [this]; exact h.tm t
theorem AtV.on {ρ H nt E a V V'} (h : AtV ρ H nt E a V) (hE : ∀ p ∈ E, still p.2 = true) (hr : Rel ρ H V') : AtV ρ H nt E a V' :=
  ⟨hr, h.nt, h.df, fun t => look_still hE (h.tm t)⟩
theorem AtV.drop {ρ H nt E a V} {p : Nat × AV} (h : AtV ρ H nt (p :: E) a V) (hd : ∀ q ∈ E, q.1 ≠ p.1) : AtV ρ H nt E a V := by
  refine ⟨h.rel, h.nt, h.df, fun t => ?_⟩
  obtain ⟨s, u⟩ := p
  by_cases ht : t = s
  · subst ht; rw [look_none hd]; trivial
  · have := h.tm t
    simp only [look] at this
    rwa [if_neg fun e => ht e.symm] at this

theorem Rel_under {ρ : Nat → Nat} {H : Heap} {w W : World} {B : Nat} (h : Rel ρ H w) (hn : noRefs H = true) (hb : ∀ i, i < H.length → ρ i < B) (hw : Below B w W) : Rel ρ H W := by
  refine ⟨fun i A hi => ?_, h.sep⟩
  have hr := h.blk i A hi
  rw [hw.block _ (hb i (get_lt hi))]
  exact noRef_RB (List.all_eq_true.1 hn A (List.mem_of_getElem? hi)) hr
theorem noRef_lv {B : Blk} (h : noRef B = true) : B.lv = true := by cases B <;> first | rfl | cases h

/-! ### Builders -/
theorem builder_grown {T e : TypeId} {B b : Nat} {bs : List Value} {w w' : World} (h : Lib.IsBuilder T e B b bs w) (hg : w.grownBy w' none) : Lib.IsBuilder T e B b bs w' := by
  have one : ∀ p, Lib.BuilderAt T e B b p bs w → Lib.BuilderAt T e B b p bs w' := fun p hp => by
    obtain ⟨h1, v, h2, h3, h4⟩ := hp
    refine ⟨h1, v, ?_, h3.kept hg ?_, h4⟩
    · rw [hg.block b (Array.getElem?_eq_some_iff.1 h2).1 (by simp)]; exact h2
    · cases v.ownBlock <;> simp
  rcases h with h | h
  · exact .inl (one _ h)
  · exact .inr (one _ h)
theorem grown_below {w w' : World} {B : Nat} (hg : w.grownBy w' none) (hB : B ≤ w.heap.size) : Below B w w' :=
  ⟨hg.os, hg.tape, hg.output, hg.size, fun k hk => hg.block k (by omega) (by simp)⟩

theorem ops_one {P : Program} {ops : Array Oper} {Q : Exit → Act → World → Prop} {i : Nat} {l : List Nat} {n : Nat} {a : Act} {w : World} {o : Oper} (ho : ops[i]? = some o) (hg : o.guard = none) (hd : ∀ c, o.op ≠ .defer c)
    (h : o.wp P a w (fun a w => wpOpsIn (RF none) n P ops Q l a w) (fun _ _ _ => False)) : wpOpsIn (RF none) n P ops Q (i :: l) a w := by
  simp only [wpOpsIn, ho]
  rw [if_pos (by simp [Region.wanted, hg])]
  exact oper_in hd (fun _ _ h => h) (fun _ _ _ h => h.elim) (fun _ _ h => h) h
theorem oper_call {P : Program} {o : Oper} {f : FuncId} {args : Array Operand} {ts : Array TypeId} {a : Act} {w : World} {K : Act → World → Prop} {Q : Exit → Act → World → Prop} (ho : o.op = .call ⟨.value (.func f), args, ts⟩) (he : Enters P f)
    (hc : Calls P f (args.map a.eval) w fun e w' => ∃ v, e = .returned v ∧ K (a.put o.dst v) w') : o.wp P a w K Q := by
  unfold Oper.wp
  have : (execOp a.eval o).run P w = .ok (.enter f (args.map a.eval)) w := by
    rw [execOp.eq_1]
    simp only [ho, resolve, Act.eval, Deferred.ofValue, Sem.run_bind, Sem.run_pure, Result.andThen_ok, invoke]
    rw [callFunc_run he]
    simp
  rw [this]
  exact hc.mono fun e w' ⟨v, h1, h2⟩ => by subst h1; exact h2

/-- A text written row by row into a builder of the call's own. -/
theorem lines_rule {C : Ctx} (hC : C.Ok) {f nt tk tb tz ts td tr tres fW fS N j : Nat} {T : TypeId} {fn : Func} {c0 c2 c3 c4 c5 c6 c12 : Code} {i1 i11 i13 : Nat} {ops1 ops11 : Array Oper} {ow oc oa : Oper} {atW atS : Array TypeId} {H0 : Heap} {args : List AV} {EA : Env} {EE : Nat → Env} {sx : Nat → ByteArray} {T0 : Nat → ByteArray}
    (hf : C.P.funcs[f]? = some fn) (hb : fn.body = some (.seq c0 (.seq (.region i1 ops1 false) (.seq (.seq c2 (.block 0 (.loop (.seq c3 (.seq (.cond (.tmp tk) .skip (.exit 0)) (.seq (.block 1 (.seq c4 (.seq c5 (.seq c6 (.region i11 ops11 false))))) c12)))))) (.seq (.region i13 #[oc, oa] false) .ret)))))
    (hname : (fn.name == "runtime.NumGoroutine") = false) (hnt : fn.ntmps = nt) (hres : fn.results = #[.tmp tres]) (hargs : args.length ≤ nt)
    (hops : ops11.toList.drop j = [ow]) (hw1 : ow.op = .call ⟨.value (.func fW), #[.tmp tb, .tmp ts], atW⟩) (hw2 : ow.guard = none) (hw3 : ow.dst = some td)
    (hc1 : oc.op = .call ⟨.value (.func fS), #[.tmp tb], atS⟩) (hc2 : oc.guard = none) (hc3 : oc.dst = some tr) (ha1 : oa.op = .assign (.tmp tr)) (ha2 : oa.guard = none) (ha3 : oa.dst = some tres)
    (hdst : dstOk nt ops11.toList = true) (hpl : plainOps ops11 = true) (hpl1 : plainOps ops1 = true)
    (hok : codeOk C nt c0 = true ∧ codeOk C nt c2 = true ∧ codeOk C nt c3 = true ∧ codeOk C nt c4 = true ∧ codeOk C nt c5 = true ∧ codeOk C nt c6 = true ∧ codeOk C nt c12 = true)
    (hpc : codePlain c0 = true ∧ codePlain c2 = true ∧ codePlain c3 = true ∧ codePlain c4 = true ∧ codePlain c5 = true ∧ codePlain c6 = true ∧ codePlain c12 = true)
    (hn : noRefs H0 = true) (hEA : ∀ p ∈ EA, still p.2 = true ∧ p.1 ≠ tb ∧ p.1 ≠ tz) (hEE : ∀ k, ∀ p ∈ EE k, still p.2 = true ∧ p.1 ≠ ts ∧ p.1 ≠ td ∧ p.1 ≠ tb) (hfr : tb ≠ ts ∧ tb ≠ td ∧ tr < nt ∧ tres < nt)
    (hT0 : T0 0 = ⟨#[]⟩) (hTs : ∀ k, k < N → T0 (k + 1) = T0 k ++ sx k) (hTl : ∀ k, k ≤ N → (T0 k).size ≤ 1000000)
    (heW : Enters C.P fW) (heS : Enters C.P fS)
    (hr1 : ∀ (Q : Exit → Act → World → Prop) (a : Act) (w : World), a.tmps.size = nt → (∀ a' : Act, a'.tmps.size = nt → a'.defers = a.defers → a'.tmps.getD tb undef = .pointer (some ⟨w.heap.size, 0, none⟩) → (∀ t, t ≠ tb → t ≠ tz → a'.tmps.getD t undef = a.tmps.getD t undef) →
      Q .normal a' (w.alloc (.cells #[.pointer none, .slice none 0 0] T))) → (∀ a w, ¬ Q .outgrown a w) → wpOps C.P ops1 Q (List.range ops1.size) a w)
    (hWS : ∀ (b : Nat) (bs : List Value) (s : ByteArray) (w : World), Lib.IsBuilder T 5 b b bs w → bs.length + s.size ≤ 140737488355328 → b ≤ w.heap.size → Calls C.P fW #[.pointer (some ⟨b, 0, none⟩), .string s] w fun e w' => (∃ v, e = .returned v) ∧ Lib.IsBuilder T 5 b b (bs ++ Lib.strCells s) w' ∧ Below b w w')
    (hSt : ∀ (b : Nat) (l : List UInt8) (w : World), Lib.IsBuilder T 5 b b (Lib.byteCells l) w → b ≤ w.heap.size → Calls C.P fS #[.pointer (some ⟨b, 0, none⟩)] w fun e w' => e = .returned (.string ⟨l.toArray⟩) ∧ Below b w w')
    (h0 : force H0.length fun n => force (argE args 0) fun E => acode C n [] c0 E H0 fun ex E1 H1 => ex = .normal ∧ WeakS H0.length E1 H1 EA H0)
    (h2 : ∀ y, force H0.length fun n => acode C n [] c2 ((tb, .raw y) :: EA) H0 fun ex E1 H1 => ex = .normal ∧ WeakS H0.length E1 H1 ((tb, .raw y) :: EE 0) H0)
    (h3 : ∀ y k, k ≤ N → force H0.length fun n => acode C n [] c3 ((tb, .raw y) :: EE k) H0 fun ex E1 H1 => ex = .normal ∧ look E1 tk = .bool (decide (k < N)) ∧ WeakS H0.length E1 H1 ((tb, .raw y) :: EE k) H0)
    (h4 : ∀ y k, k < N → force H0.length fun n => force ops11.toList fun l => force (l.take j) fun pre => acode C n [] (.seq c4 (.seq c5 c6)) ((tb, .raw y) :: EE k) H0 fun ex E1 H1 => ex = .normal ∧ aops C n [] l pre E1 H1 fun E2 H2 => WeakS H0.length E2 H2 ((ts, .str (sx k)) :: (tb, .raw y) :: EE k) H0)
    (h12 : ∀ y k, k < N → force H0.length fun n => acode C n [] c12 ((tb, .raw y) :: EE k) H0 fun ex E1 H1 => ex = .normal ∧ WeakS H0.length E1 H1 ((tb, .raw y) :: EE (k + 1)) H0) :
    ACall C.P [] f args H0 (.str (T0 N)) H0 := by
  refine ⟨⟨fn, hf, hname, by simp [hb]⟩, fun ρ w vs hrel hvs => ?_⟩
  refine (callsIn_wide (n := 0)).1 (show CallsIn (RF none) 0 C.P f vs.toArray w _ from ?_)
  refine callsIn_of_wp hf hb trivial ?_ rfl
  have hlen := (Rvs_get 0 hvs).1
  obtain ⟨ok0, ok2, ok3, ok4, ok5, ok6, ok12⟩ := hok
  obtain ⟨pl0, pl2, pl3, pl4, pl5, pl6, pl12⟩ := hpc
  have hA0 : AtV ρ H0 nt (argE args 0) { tmps := vs.toArray ++ Array.replicate (fn.ntmps - vs.toArray.size) undef, defers := [] } w := by
    refine ⟨hrel, ?_, rfl, fun t => ?_⟩
    · simp only [Array.size_append, Array.size_replicate, List.size_toArray]; omega
    · rw [look_argE]
      simp only [Nat.zero_le, if_true, Nat.sub_zero]
      have h1 := (Rvs_get t hvs).2
      by_cases ht : t < vs.length
      · have : (vs.toArray ++ Array.replicate (fn.ntmps - vs.toArray.size) undef).getD t undef = vs.getD t undef := by
          simp only [Array.getD_eq_getD_getElem?, Array.getElem?_append, List.size_toArray, if_pos ht, List.getD_eq_getElem?_getD, List.getElem?_toArray]
        rw [this]; exact h1
      · have : args.getD t .junk = .junk := by simp only [List.getD_eq_getElem?_getD]; rw [List.getElem?_eq_none (by omega)]; rfl
        rw [this]; trivial
  have piece : ∀ {c : Code} {E : Env} {Q : AEx → Env → Heap → Prop} {m : Nat}, codeOk C nt c = true → codePlain c = true → acode C H0.length [] c E H0 Q → ∀ a V, AtV ρ H0 nt E a V →
      c.wpIn (RF none) m C.P (fun e a' V' => ∃ x E1 H1, e = x.toExit ∧ Q x E1 H1 ∧ St (entV ρ H0 V) nt (look E1) H1 a' V' ∧ V.grownBy V' none) a V := by
    intro c E Q m hk hp h a V hA
    rw [← entV_len ρ H0 V] at h
    refine wpIn_mono (acode_in hC hk hp h a V hA.st) ?_
    rintro e a' V' ⟨x, E1, H1, h1, h2, h3⟩
    refine ⟨x, E1, H1, h1, h2, h3, ?_⟩
    obtain ⟨_, _, ρ2, h4, _⟩ := h3
    exact entV_grown h4
  have weak : ∀ {E1 E2 : Env} {H1 : Heap} {a : Act} {V V' : World}, St (entV ρ H0 V) nt (look E1) H1 a V' → WeakS H0.length E1 H1 E2 H0 → AtV ρ H0 nt E2 a V' := fun hs hw => AtV.of (hw.sound (entV_len _ _ _) hs)
  -- the start
  refine wpIn_seq (wpIn_mono (piece ok0 pl0 h0 _ w hA0) ?_)
  rintro e a V0 ⟨x, E1, H1, rfl, ⟨rfl, hw⟩, hs, hg0⟩
  have hA1 := weak hs hw
  clear hs hA0 hw E1 H1
  -- the builder
  show (Code.seq (.region i1 ops1 false) _).wpIn _ _ _ _ a V0
  refine wpIn_seq (wpIn_region ?_)
  have hρ : ∀ i, i < H0.length → ρ i < V0.heap.size := fun i hi => by
    obtain ⟨B, hB⟩ : ∃ B, H0[i]? = some B := ⟨_, List.getElem?_eq_getElem hi⟩
    exact (hA1.rel.blk i B hB).lt (noRef_lv (List.all_eq_true.1 hn B (List.mem_of_getElem? hB)))
  have hbw := hg0.size
  refine ops_in0 hpl1 ?_ ?_
  · exact fun a w h => nomatch h
  refine hr1 _ a V0 hA1.nt ?_ (fun a w h => nomatch h)
  intro a' hz hdf hb1 hb2
  simp only [Exit.then]
  have hU : ∃ y : Value, y = .pointer (some ⟨V0.heap.size, 0, none⟩) := ⟨_, rfl⟩
  obtain ⟨y, hy⟩ := hU
  have hbl0 : Below V0.heap.size V0 (V0.alloc (.cells #[.pointer none, .slice none 0 0] T)) := (Below.refl _ _).alloc (Nat.le_refl _) _
  have hIB0 : Lib.IsBuilder T 5 V0.heap.size V0.heap.size (Lib.byteCells (T0 0).data.toList) (V0.alloc (.cells #[.pointer none, .slice none 0 0] T)) := by
    rw [hT0]; exact Lib.fresh_isBuilder T 5 V0
  have hrl0 : Rel ρ H0 (V0.alloc (.cells #[.pointer none, .slice none 0 0] T)) := Rel_under hA1.rel hn hρ hbl0
  have hA2 : AtV ρ H0 nt ((tb, .raw y) :: EA) a' (V0.alloc (.cells #[.pointer none, .slice none 0 0] T)) := by
    refine ⟨hrl0, hz, hdf.trans hA1.df, fun t => ?_⟩
    simp only [look]
    by_cases ht : tb = t
    · rw [if_pos ht, ← ht, hb1, ← hy]; rfl
    · rw [if_neg ht]
      by_cases ht2 : t = tz
      · rw [look_none fun p hp e => (hEA p hp).2.2 (e.trans ht2)]; trivial
      · rw [hb2 t (fun e => ht e.symm) ht2]
        exact look_still (fun p hp => (hEA p hp).1) (hA1.tm t)
  have hbl1 : Below w.heap.size w (V0.alloc (.cells #[.pointer none, .slice none 0 0] T)) := (grown_below hg0 (Nat.le_refl _)).trans (hbl0.mono hbw)
  have hsz1 : V0.heap.size ≤ (V0.alloc (.cells #[.pointer none, .slice none 0 0] T)).heap.size := by simp
  clear hb1 hb2 hdf hz hbl0 hA1 hrl0
  generalize hVe : V0.alloc (.cells #[.pointer none, .slice none 0 0] T) = V1 at hIB0 hA2 hbl1 hsz1 ⊢
  generalize V0.heap.size = B at hρ hIB0 hsz1 hy hbw
  clear hVe hg0 V0 a
  -- the rows
  refine wpIn_seq (wpIn_seq (wpIn_mono (piece ok2 pl2 (h2 y) a' V1 hA2) ?_))
  rintro e a V2 ⟨x, E1, H1, rfl, ⟨rfl, hw⟩, hs, hg⟩
  have hA3 := weak hs hw
  have hIB := builder_grown hIB0 hg
  have hbl : Below w.heap.size w V2 := hbl1.trans (grown_below hg (by omega))
  have hsz : B ≤ V2.heap.size := Nat.le_trans hsz1 hg.size
  clear hs hw hg hA2 hIB0 hbl1 hsz1 E1 H1 a' V1
  show (Code.block 0 _).wpIn _ _ _ _ a V2
  refine wpIn_block ?_
  let I : Nat → Act → World → Prop := fun m a V => ∃ k, k ≤ N ∧ N - k = m ∧ AtV ρ H0 nt ((tb, .raw y) :: EE k) a V ∧ Lib.IsBuilder T 5 B B (Lib.byteCells (T0 k).data.toList) V ∧ Below w.heap.size w V ∧ B ≤ V.heap.size
  have hleast : ∀ a w, (∃ k, I k a w) → ∃ k, I k a w ∧ ∀ m, I m a w → k ≤ m := fun a w ⟨k, hk⟩ => exists_least (fun k => I k a w) k hk
  let ν : Act → World → Nat := fun a w => by classical exact if h : ∃ k, I k a w then Classical.choose (hleast a w h) else 0
  have hν : ∀ a w (h : ∃ k, I k a w), I (ν a w) a w ∧ ∀ m, I m a w → ν a w ≤ m := by
    intro a w h
    have : ν a w = Classical.choose (hleast a w h) := by simp only [ν]; rw [dif_pos h]
    rw [this]
    exact Classical.choose_spec (hleast a w h)
  refine wpIn_loop (fun a w => ∃ k, I k a w) ν ⟨N - 0, 0, Nat.zero_le _, rfl, hA3, hIB, hbl, hsz⟩ ?_
  clear hA3 hIB hbl hsz a V2
  intro a V hI
  obtain ⟨⟨k, hk, hkν, hA, hIB, hbl, hsz⟩, _⟩ := hν a V hI
  clear hI
  refine wpIn_seq (wpIn_mono (piece ok3 pl3 (h3 y k hk) a V hA) ?_)
  rintro e a1 V1 ⟨x, E1, H1, rfl, ⟨rfl, hlk, hw⟩, hs, hg⟩
  have hA1 := weak hs hw
  have hIB1 := builder_grown hIB hg
  have hbl1 : Below w.heap.size w V1 := hbl.trans (grown_below hg (by omega))
  have hsz1 : B ≤ V1.heap.size := Nat.le_trans hsz hg.size
  have hcv : a1.eval (.tmp tk) = .bool (decide (k < N)) := by
    obtain ⟨_, _, ρ2, _, he⟩ := hs
    have := he tk
    rw [hlk] at this
    exact this
  clear hs hg hA hIB hbl hsz hw
  show (Code.seq (.cond (.tmp tk) .skip (.exit 0)) _).wpIn _ _ _ _ a1 V1
  refine wpIn_seq (wpIn_cond hcv ?_)
  rcases Nat.lt_or_ge k N with hlt | hge
  rotate_left
  · -- the end
    have hkN : k = N := by omega
    subst hkN
    have hlt : ¬ k < k := by omega
    rw [decide_eq_false hlt]
    refine wpIn_exit ?_
    simp only [Exit.then, Exit.inBlock, if_true]
    refine wpIn_seq (wpIn_region ?_)
    show wpOpsIn (RF none) 0 C.P #[oc, oa] _ [0, 1] a1 V1
    refine ops_one (o := oc) rfl hc2 (fun c h => by rw [hc1] at h; cases h) (oper_call hc1 heS ?_)
    have hvb : a1.eval (.tmp tb) = y := by have := hA1.tm tb; simp only [look, if_true] at this; exact this
    have hargs1 : (#[Operand.tmp tb] : Array Operand).map a1.eval = #[.pointer (some ⟨B, 0, none⟩)] := by rw [List.map_toArray]; simp only [List.map_cons, List.map_nil, hvb, hy]
    rw [hargs1]
    refine (hSt B _ V1 hIB1 hsz1).mono ?_
    rintro e V3 ⟨rfl, hb3⟩
    refine ⟨_, rfl, ?_⟩
    rw [hc3]
    have hstr : (⟨(T0 k).data.toList.toArray⟩ : ByteArray) = T0 k := by simp
    rw [hstr]
    refine ops_one (o := oa) rfl ha2 (fun c h => by rw [ha1] at h; cases h) ?_
    have hev : (a1.put (some tr) (.string (T0 k))).eval (.tmp tr) = .string (T0 k) := by
      show (a1.tmps.setIfInBounds tr _).getD tr undef = _
      rw [tset_get (by rw [hA1.nt]; exact hfr.2.2.1), if_pos rfl]
    unfold Oper.wp
    have hrun : (execOp (a1.put (some tr) (.string (T0 k))).eval oa).run C.P V3 = .ok (.value (.string (T0 k))) V3 := by
      rw [execOp.eq_1]; simp only [ha1, hev]; rfl
    rw [hrun]
    simp only [wpOpsIn]
    refine wpIn_ret ?_
    have hrel3 : Rel ρ H0 V3 := Rel_under hA1.rel hn hρ hb3
    have hbw3 : Below w.heap.size w V3 := hbl1.trans (hb3.mono hbw)
    refine bodyPost_ret (v := .string (T0 k)) ?_ ?_ ⟨_, ρ, rfl, ⟨hrel3, hbw3.os, hbw3.tape, hbw3.output, hbw3.size, fun b _ hb _ => hbw3.block b hb, bsz_below hbw3, fun _ _ => rfl, fun i h1 h2 _ => by simp only [shs_length] at h1; omega, List.prefix_refl _⟩, rfl⟩
    rotate_left
    · rw [ha3]; exact hA1.df
    rw [results_eq, hres, ha3]
    have hr6 : ((a1.put (some tr) (.string (T0 k))).put (some tres) (.string (T0 k))).tmps.getD tres undef = .string (T0 k) := by
      show ((a1.tmps.setIfInBounds tr _).setIfInBounds tres _).getD tres undef = _
      rw [tset_get (by rw [Array.size_setIfInBounds, hA1.nt]; exact hfr.2.2.2), if_pos rfl]
    simp only [Array.getD_eq_getD_getElem?] at hr6
    simp [resOne, hr6]
  rw [decide_eq_true hlt]
  refine wpIn_skip ?_
  show (Code.seq (.block 1 _) c12).wpIn _ _ _ _ a1 V1
  have h4' := h4 y k hlt
  rw [← entV_len ρ H0 V1] at h4'
  refine wpIn_seq (wpIn_block (wpIn_seq ?_))
  have h4a : acode C (entV ρ H0 V1).S.length (entV ρ H0 V1).W c4 ((tb, .raw y) :: EE k) H0 _ := h4'
  refine wpIn_mono (acode_in hC ok4 pl4 h4a a1 V1 hA1.st) ?_
  rintro e a2 V2 ⟨x, E2, H2, rfl, hq, hs⟩
  cases x with
  | ret => exact absurd hq.1 (by simp)
  | exit m => exact absurd hq.1 (by simp)
  | normal =>
  show (Code.seq c5 _).wpIn _ _ _ _ a2 V2
  have h5a : acode C (entV ρ H0 V1).S.length (entV ρ H0 V1).W c5 E2 H2 _ := hq
  refine wpIn_seq (wpIn_mono (acode_in hC ok5 pl5 h5a a2 V2 hs) ?_)
  rintro e a2 V2 ⟨x, E3, H3, rfl, hq, hs⟩
  cases x with
  | ret => exact absurd hq.1 (by simp)
  | exit m => exact absurd hq.1 (by simp)
  | normal =>
  show (Code.seq c6 _).wpIn _ _ _ _ a2 V2
  have h6a : acode C (entV ρ H0 V1).S.length (entV ρ H0 V1).W c6 E3 H3 _ := hq
  refine wpIn_seq (wpIn_mono (acode_in hC ok6 pl6 h6a a2 V2 hs) ?_)
  rintro e a2 V2 ⟨x, E4, H4, rfl, ⟨rfl, hq⟩, hs⟩
  show (Code.region i11 ops11 false).wpIn _ _ _ _ a2 V2
  refine wpIn_region ?_
  obtain ⟨E5, H5, htr, hQ⟩ := aops_tr hC (show aops C (entV ρ H0 V1).S.length (entV ρ H0 V1).W ops11.toList (ops11.toList.take j) E4 H4 _ from hq)
  have hopl : ops11.toList = ops11.toList.take j ++ [ow] := by rw [← hops, List.take_append_drop]
  generalize hpre : ops11.toList.take j = pre at htr hopl
  have hsz11 : ops11.size = pre.length + 1 := by have := congrArg List.length hopl; simpa using this
  have hget : ∀ j (o : Oper), pre[j]? = some o → ops11[0 + j]? = some o := fun j o ho => by
    rw [Nat.zero_add, ← Array.getElem?_toList, hopl, List.getElem?_append_left (get_lt ho)]; exact ho
  have hgw : ops11[pre.length]? = some ow := by rw [← Array.getElem?_toList, hopl, List.getElem?_append_right (Nat.le_refl _)]; simp
  have hrg : List.range ops11.size = List.range' 0 pre.length ++ [pre.length] := by
    rw [hsz11, List.range_eq_range', ← List.range'_append_1]
    simp [List.range'_succ]
  have htr' : Tr C (entV ρ H0 V1).S.length (entV ρ H0 V1).W ops11 pre (look E4) H4 (look E5) H5 := by simpa using htr
  have hwp := tr_part (G := entV ρ H0 V1) (nt := nt) hdst (Q := fun e a' V' => e = .normal ∧ St (entV ρ H0 V1) nt (look E5) H5 a' V') hget htr' (fun a w hs => ⟨rfl, hs⟩) a2 V2 hs
  clear hs
  rw [hrg]
  refine ops_in hpl ?_ (fun c a w h => by cases h.1) (fun a w h => by cases h.1) _ _ _ hwp
  clear hwp
  rintro a3 V3 ⟨_, hs3⟩
  rw [entV_len] at hQ
  have hA4 := weak hs3 hQ
  have hg3 : V1.grownBy V3 none := by obtain ⟨_, _, ρ2, h4, _⟩ := hs3; exact entV_grown h4
  have hIB3 := builder_grown hIB1 hg3
  have hbl3 : Below w.heap.size w V3 := hbl1.trans (grown_below hg3 (by omega))
  have hsz3 : B ≤ V3.heap.size := Nat.le_trans hsz1 hg3.size
  refine ops_one hgw hw2 (fun c h => by rw [hw1] at h; cases h) (oper_call hw1 heW ?_)
  have hvs : a3.eval (.tmp ts) = .string (sx k) := by have := hA4.tm ts; simp only [look, if_true] at this; exact this
  have hvb : a3.eval (.tmp tb) = y := by have := hA4.tm tb; simp only [look, if_true, if_neg (fun e => hfr.1 (Eq.symm e))] at this; exact this
  have hargs1 : (#[Operand.tmp tb, Operand.tmp ts] : Array Operand).map a3.eval = #[.pointer (some ⟨B, 0, none⟩), .string (sx k)] := by rw [List.map_toArray]; rw [List.map_cons, List.map_cons, List.map_nil, hvb, hvs, hy]
  rw [hargs1]
  have hT1 := hTs k hlt
  have hlen1 : (Lib.byteCells (T0 k).data.toList).length + (sx k).size ≤ 140737488355328 := by
    have h1 := hTl (k + 1) (by omega)
    rw [hT1, ba_size] at h1
    have h2 : (Lib.byteCells (T0 k).data.toList).length = (T0 k).size := by rw [Lib.byteCells, List.length_map, Array.length_toList]; rfl
    omega
  refine (hWS B _ _ V3 hIB3 hlen1 hsz3).mono ?_
  rintro e V4 ⟨⟨v, rfl⟩, hIB4, hb4⟩
  refine ⟨v, rfl, ?_⟩
  simp only [wpOpsIn]
  have hst : ∀ p ∈ ((ts, AV.str (sx k)) :: (tb, .raw y) :: EE k), still p.2 = true := fun p hp => by
    rcases List.mem_cons.1 hp with rfl | hp
    · rfl
    · rcases List.mem_cons.1 hp with rfl | hp
      · rfl
      · exact (hEE k p hp).1
  have hA5 : AtV ρ H0 nt ((tb, .raw y) :: EE k) (a3.put ow.dst v) V4 := by
    have h1 := (hA4.on hst (Rel_under hA4.rel hn hρ hb4)).drop (fun q hq => by
      rcases List.mem_cons.1 hq with rfl | hq
      · exact hfr.1
      · exact (hEE k q hq).2.1)
    rw [hw3]
    exact h1.putJ (fun q hq => by
      rcases List.mem_cons.1 hq with rfl | hq
      · exact hfr.2.1
      · exact (hEE k q hq).2.2.1) v
  have hIB5 : Lib.IsBuilder T 5 B B (Lib.byteCells (T0 (k + 1)).data.toList) V4 := by
    have : Lib.byteCells (T0 (k + 1)).data.toList = Lib.byteCells (T0 k).data.toList ++ Lib.strCells (sx k) := by
      rw [hT1]; simp [Lib.byteCells, Lib.strCells]
    rw [this]; exact hIB4
  have hbl5 : Below w.heap.size w V4 := hbl3.trans (hb4.mono hbw)
  have hsz5 : B ≤ V4.heap.size := Nat.le_trans hsz3 hb4.size
  simp only [Exit.then, Exit.inBlock]
  refine wpIn_mono (piece ok12 pl12 (h12 y k hlt) _ V4 hA5) ?_
  rintro e a6 V6 ⟨x, E6, H6, rfl, ⟨rfl, hw6⟩, hs6, hg6⟩
  have hA6 := weak hs6 hw6
  have hI' : I (N - (k + 1)) a6 V6 := ⟨k + 1, by omega, rfl, hA6, builder_grown hIB5 hg6, hbl5.trans (grown_below hg6 (by omega)), Nat.le_trans hsz5 hg6.size⟩
  refine ⟨⟨_, hI'⟩, ?_⟩
  have := (hν a6 V6 ⟨_, hI'⟩).2 _ hI'
  omega
end Ink
/- Texts of a row put together; numbers of letters. No conditions. -/
namespace Ink
open Go Go.RowKit

def strsTo (g : Nat → ByteArray) (n : Nat) : List DV := (List.range n).map fun i => DV.str (g i)
theorem strsTo_zero {g : Nat → ByteArray} : strsTo g 0 = [] := rfl
theorem strsTo_succ {g : Nat → ByteArray} {n : Nat} : strsTo g (n + 1) = strsTo g n ++ [.str (g n)] := by simp [strsTo, List.range_succ]
theorem strsTo_length {g : Nat → ByteArray} {n : Nat} : (strsTo g n).length = n := by simp [strsTo]

theorem acall_join {P : Program} {f : FuncId} (he : Enters P f) (h0 : ∀ (a : Option Addr) (c : Nat) (sep : ByteArray) (w : World), Calls P f #[.slice a 0 c, .string sep] w fun e w' => e = .returned (.string ⟨#[]⟩) ∧ w' = w)
    (h1 : ∀ (bk o c : Nat) (xs : List ByteArray) (sep : ByteArray) (w : World), (∀ (j : Nat) x, xs[j]? = some x → w.cell? ⟨bk, o + j, none⟩ = some (.string x)) → bk < w.heap.size → xs.length ≤ 140737488355328 → xs.length ≤ c → (Lib.join (xs.map (·.data.toList)) sep.data.toList).length ≤ 140737488355328 →
      Calls P f #[.slice (some ⟨bk, o, none⟩) xs.length c, .string sep] w fun e w' => e = .returned (.string ⟨(Lib.join (xs.map (·.data.toList)) sep.data.toList).toArray⟩) ∧ Below w.heap.size w w')
    {H : Heap} {b n : Nat} {wr : Bool} {g : Nat → ByteArray} (hc : ∀ B ∈ H, B.isC = true) (hb : H[b]? = some (.seq wr .str (strsTo g n))) (hn : n ≤ 1000) (hl : (rowT g n).size ≤ 1000000) : ACall P [] f [.slc b 0 n, .str ⟨#[]⟩] H (.str (rowT g n)) H := by
  refine ⟨he, fun ρ w vs hrel hvs => ?_⟩
  match vs, hvs with
  | [v1, v2], hvs =>
  obtain ⟨hv1, hv2, _⟩ := hvs
  simp only [Rv] at hv2
  subst hv2
  obtain ⟨e, hse, hv1⟩ := hv1
  have hse' := shs_get hb
  rw [hse'] at hse
  cases hse
  have fin1 : ∀ w', Below w.heap.size w w' → ∃ x ρ', Ending.returned (.string (rowT g n)) = .returned x ∧ Inv ⟨ρ, w, shs H, [], fun _ => True, []⟩ ρ' H w' ∧ Rv ρ' (shs H) w' (.str (rowT g n)) x := fun w' hb =>
    ⟨_, ρ, rfl, ⟨Rel_below hrel hc hb, hb.os, hb.tape, hb.output, hb.size, fun b _ hl _ => hb.block b hl, bsz_below hb, fun _ _ => rfl, fun i h1 h2 _ => by simp only [shs_length] at h1; omega, List.prefix_refl _⟩, rfl⟩
  rcases hv1 with ⟨cap, rfl, hcap, _⟩ | ⟨rfl, a, rfl⟩
  · obtain ⟨_, c, T, fz, hcl, hpre, _⟩ := hrel.blk b _ hb
    have hfl : (strsTo g n).flatMap (flat .str) = (List.range n).map fun i => Value.string (g i) := by
      unfold strsTo
      rw [List.flatMap_map, List.map_eq_flatMap]
      rfl
    rw [hfl] at hpre
    have hlen : ((List.range n).map g).length = n := by simp
    have hjoin : Lib.join (((List.range n).map g).map (·.data.toList)) (⟨#[]⟩ : ByteArray).data.toList = (rowT g n).data.toList := by
      rw [show (⟨#[]⟩ : ByteArray).data.toList = [] from rfl, join_nil, rowT_bytes, List.map_map]; rfl
    have hres : (⟨(Lib.join (((List.range n).map g).map (·.data.toList)) (⟨#[]⟩ : ByteArray).data.toList).toArray⟩ : ByteArray) = rowT g n := by rw [hjoin]
    have hcall := h1 (ρ b) (0 * Sh.str.size) cap ((List.range n).map g) ⟨#[]⟩ w (fun j x hx => ?_) (hrel.blk b _ hb |>.lt rfl) (by rw [hlen]; omega) (by rw [hlen]; exact hcap) (by rw [hjoin, Array.length_toList]; have : (rowT g n).data.size = (rowT g n).size := rfl; omega)
    · rw [hlen, hres] at hcall
      refine hcall.mono ?_
      rintro e w' ⟨rfl, hb'⟩
      exact fin1 w' hb'
    · rw [cell_of_row w (ρ b) _ c T fz hcl, ← Array.getElem?_toList]
      refine prefix_get hpre ?_
      rw [List.getElem?_map] at hx ⊢
      rw [show 0 * Sh.str.size + j = j by omega]
      cases hr : (List.range n)[j]? with
      | none => rw [hr] at hx; cases hx
      | some i => rw [hr] at hx; cases hx; rfl
  · refine (h0 _ _ _ _).mono ?_
    rintro e w' ⟨rfl, rfl⟩
    exact fin1 _ (Below.refl _ _)

/-! ### Letters -/
def pixB (k : Int) : UInt8 := ([46, 97, 98, 99, 109] : List UInt8).getD (k + 1).toNat 0
def pixT (k : Int) : ByteArray := ⟨#[pixB k]⟩
theorem pixT_size (k : Int) : (pixT k).size = 1 := rfl
theorem pix_get {k : Int} (h0 : -1 ≤ k) (h1 : k ≤ 3) : (⟨#[46, 97, 98, 99, 109]⟩ : ByteArray)[(k + 1).toNat]? = some (pixB k) := by
  obtain rfl | rfl | rfl | rfl | rfl : k = -1 ∨ k = 0 ∨ k = 1 ∨ k = 2 ∨ k = 3 := by omega
  all_goals rfl
theorem pix_ext {k : Int} (h0 : -1 ≤ k) (h1 : k ≤ 3) : (⟨#[46, 97, 98, 99, 109]⟩ : ByteArray).extract (k + 1).toNat (k + 2).toNat = pixT k := by
  obtain rfl | rfl | rfl | rfl | rfl : k = -1 ∨ k = 0 ∨ k = 1 ∨ k = 2 ∨ k = 3 := by omega
  all_goals rfl
theorem pix_small {k : Int} : ((pixB k).toNat : Int) < 128 := by
  unfold pixB
  rcases h : (k + 1).toNat with _ | _ | _ | _ | _ | n <;> simp
theorem pix_back (k : Int) : (⟨#[UInt8.ofNat (((pixB k).toNat : Int)).toNat]⟩ : ByteArray) = pixT k := by simp [pixT]
theorem inkTo_le {f : Nat → Int} {m : Int} : ∀ n : Nat, 0 ≤ (inkTo f m n).1 ∧ (inkTo f m n).1 ≤ n
  | 0 => by simp [inkTo]
  | n + 1 => by
    have := inkTo_le (f := f) (m := m) n
    rw [inkTo.eq_2]; split
    · dsimp only; omega
    · omega
theorem colourM_le (f : Nat → Int) : -1 ≤ colourM f ∧ colourM f ≤ 3 := by
  unfold colourM
  split
  · omega
  · split
    · omega
    · have := inkTo_le (f := f) (m := max3 f) 3
      omega
def picM (s : SheetM) (y x : Nat) : ByteArray := if waxP s x y then ⟨#[119]⟩ else pixT (colourM (s.dye y x))
theorem picM_size {s : SheetM} (y x : Nat) : (picM s y x).size = 1 := by unfold picM; split <;> rfl
def pictureM (s : SheetM) : ByteArray := textT s.w.toNat (picM s) s.h.toNat
end Ink
/- A new builder in a block of its own: the three operations that lay it. No conditions. -/
namespace Ink
open Go Go.RowKit

theorem oper_val {P : Program} {o : Oper} {a : Act} {w w' : World} {v : Value} {K : Act → World → Prop} {Q : Exit → Act → World → Prop} (h : (execOp a.eval o).run P w = .ok (.value v) w') (hk : K (a.put o.dst v) w') : o.wp P a w K Q := by
  unfold Oper.wp; rw [h]; exact hk
theorem oper_skip {P : Program} {o : Oper} {a : Act} {w w' : World} {K : Act → World → Prop} {Q : Exit → Act → World → Prop} (h : (execOp a.eval o).run P w = .ok .skip w') (hk : K (a.put o.dst undef) w') : o.wp P a w K Q := by
  unfold Oper.wp; rw [h]; exact hk
theorem ops_left {P : Program} {ops : Array Oper} {Q : Exit → Act → World → Prop} {i : Nat} {l : List Nat} {a : Act} {w : World} {o : Oper} (ho : ops[i]? = some o) (hg : o.guard = none)
    (h : o.wp P a w (fun a w => wpOps P ops Q l a w) Q) : wpOps P ops Q (i :: l) a w := by
  simp only [wpOps, ho]
  rw [if_pos (by simp [Region.wanted, hg])]
  exact .inl h
theorem build_region {P : Program} {T : TypeId} {nt tb tz : Nat} {o1 o2 o3 : Oper} (h1 : o1.op = .build T #[] ∧ o1.guard = none ∧ o1.dst = some tz) (h2 : o2.op = .alloc T ∧ o2.guard = none ∧ o2.dst = some tb) (h3 : o3.op = .store T (.tmp tb) (.tmp tz) ∧ o3.guard = none ∧ o3.dst = none)
    (ht : tb < nt ∧ tz < nt ∧ tb ≠ tz) (hbu : P.built T [] = some #[.pointer none, .slice none 0 0]) (hz : ∀ w, (zeroValue T).run P w = .ok (.agg #[.pointer none, .slice none 0 0]) w) (hi : (P.info? T).map (·.size) = some 2)
    (Q : Exit → Act → World → Prop) (a : Act) (w : World) (hs : a.tmps.size = nt) (hk : ∀ a' : Act, a'.tmps.size = nt → a'.defers = a.defers → a'.tmps.getD tb undef = .pointer (some ⟨w.heap.size, 0, none⟩) → (∀ t, t ≠ tb → t ≠ tz → a'.tmps.getD t undef = a.tmps.getD t undef) →
      Q .normal a' (w.alloc (.cells #[.pointer none, .slice none 0 0] T))) : wpOps P #[o1, o2, o3] Q (List.range 3) a w := by
  show wpOps P #[o1, o2, o3] Q [0, 1, 2] a w
  refine ops_left (o := o1) rfl h1.2.1 (oper_val (v := .agg #[.pointer none, .slice none 0 0]) (w' := w) ?_ ?_)
  · rw [execOp.eq_1]
    simp only [h1.1, Sem.run_bind]
    rw [Array.map_empty, run_build w T #[] _ (by simpa using hbu)]
    rfl
  rw [h1.2.2]
  refine ops_left (o := o2) rfl h2.2.1 (oper_val (v := .pointer (some ⟨w.heap.size, 0, none⟩)) (w' := w.alloc (.cells #[.pointer none, .slice none 0 0] T)) ?_ ?_)
  · rw [execOp.eq_1]
    simp only [h2.1, Instr.alloc, Sem.run_bind, hz, Result.andThen_ok, newVar, newRow, run_newObj, Sem.run_pure, Value.cells]
    rfl
  rw [h2.2.2]
  have ez : (((a.put (some tz) (.agg #[.pointer none, .slice none 0 0])).put (some tb) (.pointer (some ⟨w.heap.size, 0, none⟩))).eval (.tmp tz)) = .agg #[.pointer none, .slice none 0 0] := by
    show ((a.tmps.setIfInBounds tz _).setIfInBounds tb _).getD tz undef = _
    rw [tset_get (by rw [Array.size_setIfInBounds, hs]; exact ht.1), if_neg (fun e => ht.2.2 e.symm), tset_get (by rw [hs]; exact ht.2.1), if_pos rfl]
  have eb : (((a.put (some tz) (.agg #[.pointer none, .slice none 0 0])).put (some tb) (.pointer (some ⟨w.heap.size, 0, none⟩))).eval (.tmp tb)) = .pointer (some ⟨w.heap.size, 0, none⟩) := by
    show ((a.tmps.setIfInBounds tz _).setIfInBounds tb _).getD tb undef = _
    rw [tset_get (by rw [Array.size_setIfInBounds, hs]; exact ht.1), if_pos rfl]
  have hb : (w.alloc (.cells #[.pointer none, .slice none 0 0] T)).heap[w.heap.size]? = some (.cells #[.pointer none, .slice none 0 0] T (0, 0)) := heap_alloc_new w _
  refine ops_left (o := o3) rfl h3.2.1 (oper_skip (w' := w.alloc (.cells #[.pointer none, .slice none 0 0] T)) ?_ ?_)
  · rw [execOp.eq_1]
    have hst := run_storeVar_row (P := P) (w.alloc (.cells #[.pointer none, .slice none 0 0] T)) w.heap.size T T #[.pointer none, .slice none 0 0] #[.pointer none, .slice none 0 0] hb (by simpa using hi) rfl (by simp [Value.oneCell'])
    have hsame : (w.alloc (.cells #[.pointer none, .slice none 0 0] T)).setRow w.heap.size #[.pointer none, .slice none 0 0] = w.alloc (.cells #[.pointer none, .slice none 0 0] T) := by
      have hp := putBlock_self _ _ _ _ _ hb
      exact hp
    simp only [h3.1, ez, eb, Instr.storeAt, Instr.sureAddr, Sem.run_bind, Sem.run_pure, Result.andThen_ok, hst, hsame]
  rw [h3.2.2]
  simp only [wpOps]
  refine hk _ (by simp [Act.put, hs]) rfl eb fun t h1 h2 => ?_
  show ((a.tmps.setIfInBounds tz _).setIfInBounds tb _).getD t undef = _
  rw [tset_get (by rw [Array.size_setIfInBounds, hs]; exact ht.1), if_neg h1, tset_get (by rw [hs]; exact ht.2.1), if_neg h2]
end Ink
