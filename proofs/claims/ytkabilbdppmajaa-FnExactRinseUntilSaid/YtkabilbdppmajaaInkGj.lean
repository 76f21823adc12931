/- Contracts of functions of the program, by the texts that it imports. No conditions. -/
import Derived.Test.YtkabilbdppmajaaInkGi
import Derived.Test.YtkabilbdppmajaaInkGg
set_option linter.unusedVariables false
set_option linter.unusedSimpArgs false
/- Writers of two blocks that look at a third one; what the program means: the least share. No conditions. -/
namespace Ink
open Go
theorem ACall.at3ww {P : Program} {f : FuncId} {args : List AV} {v : AV} {B B' C C' D : Blk} (h : ACall P [0, 1] f args [B, C, D] v [B', C', D]) (hB : noRef B = true) (hB' : noRef B' = true) (hC : noRef C = true) (hC' : noRef C' = true) (hD : noRef D = true) (hw : B.wr = true ∧ B'.wr = true) (hw2 : C.wr = true ∧ C'.wr = true) {H : Heap} {b c d : Nat} (hb : H[b]? = some B) (hc : H[c]? = some C) (hd : H[d]? = some D) (hnd : [b, c, d].Nodup) {args' : List AV} (hs : inScopes 3 args) (ha : rens (kap [b, c, d] 3 H.length) args = args') (hv : plain v = true) :
    ACall P [b, c] f args' H v ((H.set b B').set c C') := by
  subst ha
  have h2 := plain_ren (σ := kap [b, c, d] 3 H.length) (m := 0) hv
  have hne : (¬ b = c ∧ ¬ b = d) ∧ ¬ c = d := by simpa using hnd
  have := ACall.frame (Hm := [B, C, D]) (Hm' := [B', C', D]) (N := []) h rfl (H := H) [b, c, d] rfl hnd (fun i E hi => by
    match i with
    | 0 => simp at hi; subst hi; simp [renB_of hB, hb]
    | 1 => simp at hi; subst hi; simp [renB_of hC, hc]
    | 2 => simp at hi; subst hi; simp [renB_of hD, hd]
    | i + 3 => simp at hi) hs (fun E hE => by
      simp at hE
      rcases hE with rfl | rfl | rfl
      · exact sc_of hB _
      · exact sc_of hC _
      · exact sc_of hD _) (fun i hi => by
      simp at hi
      rcases hi with rfl | rfl
      · exact ⟨by simp, fun E hE => by simp at hE; subst hE; exact hw.1⟩
      · exact ⟨by simp, fun E hE => by simp at hE; subst hE; exact hw2.1⟩) (fun E hE => by
      simp at hE
      rcases hE with rfl | rfl | rfl
      · exact lv_of hB
      · exact lv_of hC
      · exact lv_of hD) (by simp [hw, hw2])
  simp only [setAll, renB_of hB', renB_of hC', renB_of hD, List.length_cons, List.length_nil, Nat.zero_add, List.map_nil, List.append_nil, List.map_cons] at this
  have e0 : kap [b, c, d] (1 + 1 + 1) H.length 0 = b := by simp [kap]
  have e1 : kap [b, c, d] (1 + 1 + 1) H.length 1 = c := by simp [kap]
  have e2 : kap [b, c, d] (1 + 1 + 1) H.length (1 + 1) = d := by simp [kap]
  rw [e0, e1, e2] at this
  rw [h2.1] at this
  rw [set_same (H := (H.set b B').set c C') (by rw [List.getElem?_set_ne hne.2, List.getElem?_set_ne hne.1.2]; exact hd)] at this
  simpa using this
def bSh (b : BrushM) (k : Int) : BrushM := { b with share := k }
noncomputable def lsOut (s : SheetM) (b : BrushM) (N : List SpotM) (k : Nat) : SheetM := (strk s (bSh b ((k : Int) + 1)) N N.length).1
noncomputable def litP (t : SheetM) (least : Int) (p : SpotM) : Bool := !decide (waxP t p.x p.y) && decide (darkM t p.x p.y < least)
noncomputable def lsB (s : SheetM) (b : BrushM) (N : List SpotM) (least : Int) (k : Nat) : Bool := !N.any (litP (lsOut s b N k) least)
noncomputable def lsK (s : SheetM) (b : BrushM) (N : List SpotM) (least : Int) : Nat := (List.range 16).findIdx (lsB s b N least)
section
variable {s : SheetM} {b : BrushM} {N : List SpotM} {least : Int} {k : Nat}
theorem lsK_le : lsK s b N least ≤ 16 := by
  have := List.findIdx_le_length (p := lsB s b N least) (xs := List.range 16)
  simpa [lsK] using this
theorem lsK_hit (hk : k ≤ lsK s b N least) (h16 : k < 16) (h : lsB s b N least k = true) : lsK s b N least = k := by
  apply Classical.byContradiction
  intro hne
  have hlt : k < lsK s b N least := by omega
  have := List.not_of_lt_findIdx (p := lsB s b N least) (xs := List.range 16) hlt
  rw [List.getElem_range] at this
  rw [h] at this
  cases this
theorem lsK_miss (hk : k ≤ lsK s b N least) (h16 : k < 16) (h : lsB s b N least k = false) : k + 1 ≤ lsK s b N least := by
  apply Classical.byContradiction
  intro hne
  have he : lsK s b N least = k := by omega
  have hl : (List.range 16).findIdx (lsB s b N least) < (List.range 16).length := by
    show lsK s b N least < _; simp; omega
  have := List.findIdx_getElem (w := hl)
  rw [List.getElem_range] at this
  have h2 : lsB s b N least (lsK s b N least) = true := this
  rw [he, h] at h2
  cases h2
theorem bSh_valid (hb : brushP b) (h16 : k < 16) : brushP (bSh b ((k : Int) + 1)) := ⟨hb.1, hb.2.1, hb.2.2.1, by show 1 ≤ (k : Int) + 1 ∧ (k : Int) + 1 ≤ 16; omega⟩
theorem bSh_ok (hb : b.Ok) (h16 : k < 16) : (bSh b ((k : Int) + 1)).Ok := ⟨hb.dye, hb.water, by show -128 ≤ (k : Int) + 1 ∧ (k : Int) + 1 < 128; omega⟩
def curB (b : BrushM) (k : Nat) : BrushM := if k = 0 then b else bSh b k
theorem curB_set : ({ curB b k with share := (k : Int) + 1 } : BrushM) = bSh b ((k : Int) + 1) := by unfold curB; split <;> rfl
theorem curB_succ : curB b (k + 1) = bSh b ((k : Int) + 1) := by unfold curB; rw [if_neg (by omega)]; congr 1
noncomputable def lsC (s : SheetM) (b : BrushM) (N : List SpotM) (least : Int) : Int := if alC s b N = 0 then (if 1 ≤ least ∧ least ≤ 3000 then 0 else 2) else alC s b N
noncomputable def lsV (s : SheetM) (b : BrushM) (N : List SpotM) (least : Int) : AV :=
  .tup [.int .i64 (if lsC s b N least = 0 ∧ lsK s b N least < 16 then (lsK s b N least : Int) + 1 else 0), .int .i64 (if lsC s b N least = 0 then (if lsK s b N least < 16 then 0 else 6) else lsC s b N least)]
theorem lsV_ok (h : lsC s b N least = 0) (hk : lsK s b N least = k) (h16 : k < 16) : lsV s b N least = .tup [.int .i64 ((k : Int) + 1), .int .i64 0] := by
  unfold lsV; rw [if_pos ⟨h, by omega⟩, if_pos h, if_pos (by omega), hk]
theorem lsV_no (h : lsC s b N least = 0) (hk : ¬ lsK s b N least < 16) : lsV s b N least = .tup [.int .i64 0, .int .i64 6] := by
  unfold lsV; rw [if_neg (fun g => hk g.2), if_pos h, if_neg hk]
theorem lsV_ne {c : Int} (h : lsC s b N least = c) (hc : c ≠ 0) : lsV s b N least = .tup [.int .i64 0, .int .i64 c] := by
  unfold lsV; rw [h, if_neg (fun g => hc g.1), if_neg hc]
end
end Ink
/- What the program means: rinsing till a sheet is light. No conditions. -/
namespace Ink
open Go
def lowP (s t : SheetM) (y x k : Nat) : Prop := t.dye y x k = 0 ∨ t.dye y x k < s.dye y x k
section
variable {s : SheetM} {share : Int} {st : RinM} {x y k : Nat}
theorem low_keep {c : Int} (hd : dyeOk s) (hs : 1 ≤ share ∧ share ≤ 15) (h : RinOk s c st) (hx : x < 8) (hy : y < 8) (hk : k < 3) {b a q : Nat} (hl : lowP s st.1 b a q) : lowP s (rinse1 share st x y k).1 b a q := by
  have h1 := h.dye y x k hy hx hk
  have h2 := hd y x k hy hx hk
  have hb := rinseBy_bd (d := st.1.dye y x k) (share := share) (by omega) hs
  unfold lowP at hl ⊢
  show u3 st.1.dye y x k _ b a q = 0 ∨ u3 st.1.dye y x k _ b a q < _
  rw [u3_at]
  split
  · rename_i e
    obtain ⟨rfl, rfl, rfl⟩ := e
    omega
  · exact hl
theorem low_new {c : Int} (hd : dyeOk s) (hs : 1 ≤ share ∧ share ≤ 15) (h : RinOk s c st) (hx : x < 8) (hy : y < 8) (hk : k < 3) : lowP s (rinse1 share st x y k).1 y x k := by
  have h1 := h.dye y x k hy hx hk
  have h2 := hd y x k hy hx hk
  have hb := rinseBy_bd (d := st.1.dye y x k) (share := share) (by omega) hs
  unfold lowP
  show u3 st.1.dye y x k _ y x k = 0 ∨ u3 st.1.dye y x k _ y x k < _
  rw [u3_at, if_pos ⟨rfl, rfl, rfl⟩]
  omega
theorem low_ink {c : Int} (hd : dyeOk s) (hs : 1 ≤ share ∧ share ≤ 15) (h : RinOk s c st) (hx : x < 8) (hy : y < 8) : ∀ k : Nat, k ≤ 3 → (∀ b a q, lowP s st.1 b a q → lowP s (rinseInk share st x y k).1 b a q) ∧ ∀ q < k, lowP s (rinseInk share st x y k).1 y x q := by
  intro k
  induction k with
  | zero => exact fun _ => ⟨fun _ _ _ h => h, fun q h => by omega⟩
  | succ k ih =>
    intro hk
    obtain ⟨i1, i2⟩ := ih (by omega)
    have hr := h.ink hd hs hx hy k (by omega)
    rw [rinseInk_succ]
    refine ⟨fun b a q hl => low_keep hd hs hr hx hy (by omega) (i1 b a q hl), fun q hq => ?_⟩
    by_cases e : q = k
    · subst e; exact low_new hd hs hr hx hy (by omega)
    · exact low_keep hd hs hr hx hy (by omega) (i2 q (by omega))
theorem low_to (hd : dyeOk s) (hs : 1 ≤ share ∧ share ≤ 15) (hm : small s) : ∀ n : Nat, n ≤ s.w.toNat * s.h.toNat → ∀ m < n, ∀ q < 3, lowP s (rinseTo s share n).1 (m / s.w.toNat) (m % s.w.toNat) q := by
  intro n
  induction n with
  | zero => intro _ m hm'; omega
  | succ n ih =>
    intro hn m hmn q hq
    have hc := cell_in (w := s.w.toNat) (h := s.h.toNat) (n := n) (by omega)
    have hr := RinOk.to (share := share) hd hs hm n (by omega)
    have hi := low_ink hd hs hr (x := n % s.w.toNat) (y := n / s.w.toNat) (by omega) (by omega) 3 (by omega)
    rw [rinseTo_succ]
    by_cases e : m = n
    · subst e; exact hi.2 q hq
    · exact hi.1 _ _ _ (ih (by omega) m (by omega) q hq)
end
def dkN (s : SheetM) : Int := (mostA s (darkG s)).2
theorem dkN_nn {s : SheetM} : 0 ≤ dkN s := mostTo_nn
theorem dkN_le {s : SheetM} (hd : dyeOk s) (hm : small s) : dkN s ≤ 3000 := by
  unfold dkN mostA
  have : ∀ n ≤ s.w.toNat * s.h.toNat, (mostTo (darkG s) s.w.toNat n).2 ≤ 3000 := by
    intro n
    induction n with
    | zero => intro _; rw [mostTo_zero]; decide
    | succ n ih =>
      intro hn
      have hc := cell_in (w := s.w.toNat) (h := s.h.toNat) (n := n) (by omega)
      have h0 := hd (n / s.w.toNat) (n % s.w.toNat) 0 (by omega) (by omega) (by omega)
      have h1 := hd (n / s.w.toNat) (n % s.w.toNat) 1 (by omega) (by omega) (by omega)
      have h2 := hd (n / s.w.toNat) (n % s.w.toNat) 2 (by omega) (by omega) (by omega)
      rw [mostTo]
      split
      · show darkG s _ _ ≤ 3000
        unfold darkG; omega
      · exact ih (by omega)
  exact this _ (Nat.le_refl _)
theorem dkN_down {s : SheetM} {share : Int} (hd : dyeOk s) (hs : 1 ≤ share ∧ share ≤ 15) (hm : small s) (h0 : 0 < dkN s) : dkN (rinseM s share).1 < dkN s := by
  have hr : RinOk s _ (rinseM s share) := RinOk.to (share := share) hd hs hm _ (Nat.le_refl _)
  have hl := low_to hd hs hm _ (Nat.le_refl _)
  by_cases h1 : 0 < dkN (rinseM s share).1
  · generalize hT : (rinseM s share).1 = t at *
    have ew : t.w = s.w := by have := hr.w; rw [hT] at this; exact this
    have eh : t.h = s.h := by have := hr.h; rw [hT] at this; exact this
    have hdy := hr.dye
    rw [hT] at hdy
    unfold dkN mostA at *
    rw [ew, eh] at h1 ⊢
    have hge := fun m (h : m < s.w.toNat * s.h.toNat) => most_ge (g := darkG s) (w := s.w.toNat) h
    have hcc := fun m (h : m < s.w.toNat * s.h.toNat) => cell_in (w := s.w.toNat) (h := s.h.toNat) (n := m) h
    have hw : s.w.toNat ≤ 8 := by omega
    have hh : s.h.toNat ≤ 8 := by omega
    generalize s.w.toNat * s.h.toNat = N at *
    obtain _ | N := N
    · rw [mostTo_zero] at h1; exact absurd h1 (by decide)
    · have hnn : ∀ k < N + 1, 0 ≤ darkG t (k / s.w.toNat) (k % s.w.toNat) := fun k hk => by
        have hc := hcc k hk
        have a0 := hdy (k / s.w.toNat) (k % s.w.toNat) 0 (by omega) (by omega) (by omega)
        have a1 := hdy (k / s.w.toNat) (k % s.w.toNat) 1 (by omega) (by omega) (by omega)
        have a2 := hdy (k / s.w.toNat) (k % s.w.toNat) 2 (by omega) (by omega) (by omega)
        unfold darkG; omega
      obtain ⟨e1, e2⟩ := mostTo_at (g := darkG t) (w := s.w.toNat) (n := N) hnn
      rw [e1] at h1 ⊢
      generalize (mostTo (darkG t) s.w.toNat (N + 1)).1 = m at *
      have hc := hcc m (by omega)
      have a0 := hdy (m / s.w.toNat) (m % s.w.toNat) 0 (by omega) (by omega) (by omega)
      have a1 := hdy (m / s.w.toNat) (m % s.w.toNat) 1 (by omega) (by omega) (by omega)
      have a2 := hdy (m / s.w.toNat) (m % s.w.toNat) 2 (by omega) (by omega) (by omega)
      have l0 := hl m (by omega) 0 (by omega)
      have l1 := hl m (by omega) 1 (by omega)
      have l2 := hl m (by omega) 2 (by omega)
      have g := hge m (by omega)
      unfold lowP at l0 l1 l2
      unfold darkG at h1 g ⊢
      omega
  · omega
def gsum (s : SheetM) (share : Int) : Nat → Nat → Int
  | 0, _ => 0
  | k + 1, q => gsum s share k q + bathO s share k q
noncomputable def ruK (s : SheetM) (share level : Int) : Nat := (List.range 3001).findIdx fun n => decide (dkN (rinIt s share n) ≤ level)
section
variable {s : SheetM} {share level c : Int} {i : Nat}
theorem gsum_zero : upTo (gsum s share 0) 0 3 = fun _ => 0 := by funext q; unfold upTo; split <;> rfl
theorem gsum_succ : gsum s share (i + 1) = fun q => gsum s share i q + bathO s share i q := rfl
theorem gsum_bd (hd : dyeOk s) (hm : small s) (hs : 1 ≤ share ∧ share ≤ 15) (q : Nat) : 0 ≤ gsum s share i q ∧ gsum s share i q ≤ 192000 * (i : Int) := by
  induction i with
  | zero => exact ⟨Int.le_refl _, Int.le_refl _⟩
  | succ i ih =>
    have := bathO_bd (k := i) hd hm hs q
    rw [gsum_succ]
    dsimp only
    omega
theorem dkN_it (hd : dyeOk s) (hm : small s) (hs : 1 ≤ share ∧ share ≤ 15) (h0 : 0 ≤ level) (h : ∀ j < i, level < dkN (rinIt s share j)) : dkN (rinIt s share i) + (i : Int) ≤ 3000 := by
  induction i with
  | zero => have := dkN_le hd hm; rw [rinIt_zero]; omega
  | succ i ih =>
    obtain ⟨h1, h2, _, _⟩ := rinIt_ok (n := i) hd hm hs
    have hi := ih fun j hj => h j (by omega)
    have hl := h i (by omega)
    have := dkN_down h1 hs h2 (by omega)
    rw [rinIt_succ]
    omega
theorem ruK_eq (hd : dyeOk s) (hm : small s) (hs : 1 ≤ share ∧ share ≤ 15) (h0 : 0 ≤ level) (h : ∀ j < i, level < dkN (rinIt s share j)) (hi : dkN (rinIt s share i) ≤ level) : ruK s share level = i := by
  have hb := dkN_it hd hm hs h0 h
  have hn := dkN_nn (s := rinIt s share i)
  unfold ruK
  rw [List.findIdx_eq (by simp; omega)]
  refine ⟨by simpa using hi, fun j hj => ?_⟩
  have := h j hj
  simpa using this
theorem rinM_sok (h : s.Ok) (hd : dyeOk s) (hm : small s) (hs : 1 ≤ share ∧ share ≤ 15) : (rinseM s share).1.Ok := by
  have hr : RinOk s _ (rinseM s share) := RinOk.to (share := share) hd hs hm _ (Nat.le_refl _)
  refine ⟨?_, ?_, fun i j => ?_, fun i j k => ?_, fun i => ?_⟩
  · rw [hr.w]; exact h.w
  · rw [hr.h]; exact h.h
  · rw [hr.wet]; exact h.wet i j
  · by_cases hb : i < 8 ∧ j < 8 ∧ k < 3
    · have a := hr.dye i j k hb.1 hb.2.1 hb.2.2
      have b := hd i j k hb.1 hb.2.1 hb.2.2
      omega
    · rw [hr.out i j k hb]; exact h.dye i j k
  · rw [hr.wax]; exact h.wax i
theorem rinIt_sok (h : s.Ok) (hd : dyeOk s) (hm : small s) (hs : 1 ≤ share ∧ share ≤ 15) : (rinIt s share i).Ok := by
  induction i with
  | zero => exact h
  | succ i ih =>
    obtain ⟨h1, h2, _, _⟩ := rinIt_ok (n := i) hd hm hs
    rw [rinIt_succ]
    exact rinM_sok ih h1 h2 hs
noncomputable def ruC (s : SheetM) (share level : Int) : Int := codeM s (decide (1 ≤ share ∧ share ≤ 15) && decide (0 ≤ level ∧ level ≤ 3000))
noncomputable def ruV (s : SheetM) (share level : Int) : AV :=
  .tup [.agg shSheet (sheetD (if ruC s share level = 0 then rinIt s share (ruK s share level) else zeroSheet)), .int .i64 (if ruC s share level = 0 then (ruK s share level : Int) else 0),
    .agg (.arr 3 (.int .i64)) (a1 .i64 (if ruC s share level = 0 then upTo (gsum s share (ruK s share level)) 0 3 else fun _ => 0)), .int .i64 (ruC s share level)]
theorem ruV_ok (e : ruC s share level = 0) (hk : ruK s share level = i) : ruV s share level = .tup [.agg shSheet (sheetD (rinIt s share i)), .int .i64 (i : Int), .agg (.arr 3 (.int .i64)) (a1 .i64 (upTo (gsum s share i) 0 3)), .int .i64 0] := by simp [ruV, e, hk]
theorem ruV_no (e : ruC s share level = c) (hc : c ≠ 0) : ruV s share level = .tup [.agg shSheet (sheetD zeroSheet), .int .i64 0, .agg (.arr 3 (.int .i64)) (a1 .i64 fun _ => 0), .int .i64 c] := by simp [ruV, e, hc]
end
end Ink
