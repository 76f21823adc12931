/- Contracts of functions of the program, by the texts that it imports. No conditions. -/
import Derived.Test.YtjdpdnpfnlpjnaaInkGi
import Derived.Test.YtjdpdnpfnlpjnaaInkGg
set_option linter.unusedVariables false
set_option linter.unusedSimpArgs false
/- Writers of two blocks that look at a third one; what the program means: the least share. No conditions. -/
namespace Ink
open Go
theorem ACall.at3ww {P : Program} {f : FuncId} {args : List AV} {v : AV} {B B' C C' D : Blk} (h : ACall P [0, 1] f args [B, C, D] v [B', C', D]) (hB : noRef B = true) (hB' : noRef B' = true) (hC : noRef C = true) (hC' : noRef C' = true) (hD : noRef D = true) (hw : B.wr = true ∧ B'.wr = true) (hw2 : C.wr = true ∧ C'.wr = true) {H : Heap} {b c d : Nat} (hb : H[b]? = some B) (hc : H[c]? = some C) (hd : H[d]? = some D) (hnd : [b, c, d].Nodup) {args' : List AV} (hs : inScopes 3 args) (ha : rens (kap [b, c, d] 3 H.length) args = args') (hv : plain v = true) :
    ACall P [b, c] f args' H v ((H.set b B').set c C') := by
  subst ha
  have h2 := plain_ren (σ := kap [b, c, d] 3 H.length) (m := 0) hv
  have hne : (¬ b = c ∧ ¬ b = d) ∧ ¬ c = d := by simpa using hnd
  have := ACall.frame (Hm := [B, C, D]) (Hm' := [B', C', D]) (N := []) h rfl (H := H) [b, c, d] rfl hnd (fun i E hi => by
    match i with
    | 0 => simp at hi; subst hi; simp [renB_of hB, hb]
    | 1 => simp at hi; subst hi; simp [renB_of hC, hc]
    | 2 => simp at hi; subst hi; simp [renB_of hD, hd]
    | i + 3 => simp at hi) hs (fun E hE => by
      simp at hE
      rcases hE with rfl | rfl | rfl
      · exact sc_of hB _
      · exact sc_of hC _
      · exact sc_of hD _) (fun i hi => by
      simp at hi
      rcases hi with rfl | rfl
      · exact ⟨by simp, fun E hE => by simp at hE; subst hE; exact hw.1⟩
      · exact ⟨by simp, fun E hE => by simp at hE; subst hE; exact hw2.1⟩) (fun E hE => by
      simp at hE
      rcases hE with rfl | rfl | rfl
      · exact lv_of hB
      · exact lv_of hC
      · exact lv_of hD) (by simp [hw, hw2])
  simp only [setAll, renB_of hB', renB_of hC', renB_of hD, List.length_cons, List.length_nil, Nat.zero_add, List.map_nil, List.append_nil, List.map_cons] at this
  have e0 : kap [b, c, d] (1 + 1 + 1) H.length 0 = b := by simp [kap]
  have e1 : kap [b, c, d] (1 + 1 + 1) H.length 1 = c := by simp [kap]
  have e2 : kap [b, c, d] (1 + 1 + 1) H.length (1 + 1) = d := by simp [kap]
  rw [e0, e1, e2] at this
  rw [h2.1] at this
  rw [set_same (H := (H.set b B').set c C') (by rw [List.getElem?_set_ne hne.2, List.getElem?_set_ne hne.1.2]; exact hd)] at this
  simpa using this
def bSh (b : BrushM) (k : Int) : BrushM := { b with share := k }
noncomputable def lsOut (s : SheetM) (b : BrushM) (N : List SpotM) (k : Nat) : SheetM := (strk s (bSh b ((k : Int) + 1)) N N.length).1
noncomputable def litP (t : SheetM) (least : Int) (p : SpotM) : Bool := !decide (waxP t p.x p.y) && decide (darkM t p.x p.y < least)
noncomputable def lsB (s : SheetM) (b : BrushM) (N : List SpotM) (least : Int) (k : Nat) : Bool := !N.any (litP (lsOut s b N k) least)
noncomputable def lsK (s : SheetM) (b : BrushM) (N : List SpotM) (least : Int) : Nat := (List.range 16).findIdx (lsB s b N least)
section
variable {s : SheetM} {b : BrushM} {N : List SpotM} {least : Int} {k : Nat}
theorem lsK_le : lsK s b N least ≤ 16 := by
  have := List.findIdx_le_length (p := lsB s b N least) (xs := List.range 16)
  simpa [lsK] using this
theorem lsK_hit (hk : k ≤ lsK s b N least) (h16 : k < 16) (h : lsB s b N least k = true) : lsK s b N least = k := by
  apply Classical.byContradiction
  intro hne
  have hlt : k < lsK s b N least := by omega
  have := List.not_of_lt_findIdx (p := lsB s b N least) (xs := List.range 16) hlt
  rw [List.getElem_range] at this
  rw [h] at this
  cases this
theorem lsK_miss (hk : k ≤ lsK s b N least) (h16 : k < 16) (h : lsB s b N least k = false) : k + 1 ≤ lsK s b N least := by
  apply Classical.byContradiction
  intro hne
  have he : lsK s b N least = k := by omega
  have hl : (List.range 16).findIdx (lsB s b N least) < (List.range 16).length := by
    show lsK s b N least < _; simp; omega
  have := List.findIdx_getElem (w := hl)
  rw [List.getElem_range] at this
  have h2 : lsB s b N least (lsK s b N least) = true := this
  rw [he, h] at h2
  cases h2
theorem bSh_valid (hb : brushP b) (h16 : k < 16) : brushP (bSh b ((k : Int) + 1)) := ⟨hb.1, hb.2.1, hb.2.2.1, by show 1 ≤ (k : Int) + 1 ∧ (k : Int) + 1 ≤ 16; omega⟩
theorem bSh_ok (hb : b.Ok) (h16 : k < 16) : (bSh b ((k : Int) + 1)).Ok := ⟨hb.dye, hb.water, by show -128 ≤ (k : Int) + 1 ∧ (k : Int) + 1 < 128; omega⟩
def curB (b : BrushM) (k : Nat) : BrushM := if k = 0 then b else bSh b k
theorem curB_set : ({ curB b k with share := (k : Int) + 1 } : BrushM) = bSh b ((k : Int) + 1) := by unfold curB; split <;> rfl
theorem curB_succ : curB b (k + 1) = bSh b ((k : Int) + 1) := by unfold curB; rw [if_neg (by omega)]; congr 1
noncomputable def lsC (s : SheetM) (b : BrushM) (N : List SpotM) (least : Int) : Int := if alC s b N = 0 then (if 1 ≤ least ∧ least ≤ 3000 then 0 else 2) else alC s b N
noncomputable def lsV (s : SheetM) (b : BrushM) (N : List SpotM) (least : Int) : AV :=
  .tup [.int .i64 (if lsC s b N least = 0 ∧ lsK s b N least < 16 then (lsK s b N least : Int) + 1 else 0), .int .i64 (if lsC s b N least = 0 then (if lsK s b N least < 16 then 0 else 6) else lsC s b N least)]
theorem lsV_ok (h : lsC s b N least = 0) (hk : lsK s b N least = k) (h16 : k < 16) : lsV s b N least = .tup [.int .i64 ((k : Int) + 1), .int .i64 0] := by
  unfold lsV; rw [if_pos ⟨h, by omega⟩, if_pos h, if_pos (by omega), hk]
theorem lsV_no (h : lsC s b N least = 0) (hk : ¬ lsK s b N least < 16) : lsV s b N least = .tup [.int .i64 0, .int .i64 6] := by
  unfold lsV; rw [if_neg (fun g => hk g.2), if_pos h, if_neg hk]
theorem lsV_ne {c : Int} (h : lsC s b N least = c) (hc : c ≠ 0) : lsV s b N least = .tup [.int .i64 0, .int .i64 c] := by
  unfold lsV; rw [h, if_neg (fun g => hc g.1), if_neg hc]
end
end Ink
/- What the program means: rinsing till a sheet is light. No conditions. -/
namespace Ink
open Go
def lowP (s t : SheetM) (y x k : Nat) : Prop := t.dye y x k = 0 ∨ t.dye y x k < s.dye y x k
section
variable {s : SheetM} {share : Int} {st : RinM} {x y k : Nat}
theorem low_keep {c : Int} (hd : dyeOk s) (hs : 1 ≤ share ∧ share ≤ 15) (h : RinOk s c st) (hx : x < 8) (hy : y < 8) (hk : k < 3) {b a q : Nat} (hl : lowP s st.1 b a q) : lowP s (rinse1 share st x y k).1 b a q := by
  have h1 := h.dye y x k hy hx hk
  have h2 := hd y x k hy hx hk
  have hb := rinseBy_bd (d := st.1.dye y x k) (share := share) (by omega) hs
  unfold lowP at hl ⊢
  show u3 st.1.dye y x k _ b a q = 0 ∨ u3 st.1.dye y x k _ b a q < _
  rw [u3_at]
  split
  · rename_i e
    obtain ⟨rfl, rfl, rfl⟩ := e
    omega
  · exact hl
theorem low_new {c : Int} (hd : dyeOk s) (hs : 1 ≤ share ∧ share ≤ 15) (h : RinOk s c st) (hx : x < 8) (hy : y < 8) (hk : k < 3) : lowP s (rinse1 share st x y k).1 y x k := by
  have h1 := h.dye y x k hy hx hk
  have h2 := hd y x k hy hx hk
  have hb := rinseBy_bd (d := st.1.dye y x k) (share := share) (by omega) hs
  unfold lowP
  show u3 st.1.dye y x k _ y x k = 0 ∨ u3 st.1.dye y x k _ y x k < _
  rw [u3_at, if_pos ⟨rfl, rfl, rfl⟩]
  omega
theorem low_ink {c : Int} (hd : dyeOk s) (hs : 1 ≤ share ∧ share ≤ 15) (h : RinOk s c st) (hx : x < 8) (hy : y < 8) : ∀ k : Nat, k ≤ 3 → (∀ b a q, lowP s st.1 b a q → lowP s (rinseInk share st x y k).1 b a q) ∧ ∀ q < k, lowP s (rinseInk share st x y k).1 y x q := by
  intro k
  induction k with
  | zero => exact fun _ => ⟨fun _ _ _ h => h, fun q h => by omega⟩
  | succ k ih =>
    intro hk
    obtain ⟨i1, i2⟩ := ih (by omega)
    have hr := h.ink hd hs hx hy k (by omega)
    rw [rinseInk_succ]
    refine ⟨fun b a q hl => low_keep hd hs hr hx hy (by omega) (i1 b a q hl), fun q hq => ?_⟩
    by_cases e : q = k
    · subst e; exact low_new hd hs hr hx hy (by omega)
    · exact low_keep hd hs hr hx hy (by omega) (i2 q (by omega))
theorem low_to (hd : dyeOk s) (hs : 1 ≤ share ∧ share ≤ 15) (hm : small s) : ∀ n : Nat, n ≤ s.w.toNat * s.h.toNat → ∀ m < n, ∀ q < 3, lowP s (rinseTo s share n).1 (m / s.w.toNat) (m % s.w.toNat) q := by
  intro n
  induction n with
  | zero => intro _ m hm'; omega
  | succ n ih =>
    intro hn m hmn q hq
    have hc := cell_in (w := s.w.toNat) (h := s.h.toNat) (n := n) (by omega)
    have hr := RinOk.to (share := share) hd hs hm n (by omega)
    have hi := low_ink hd hs hr (x := n % s.w.toNat) (y := n / s.w.toNat) (by omega) (by omega) 3 (by omega)
    rw [rinseTo_succ]
    by_cases e : m = n
    · subst e; exact hi.2 q hq
    · exact hi.1 _ _ _ (ih (by omega) m (by omega) q hq)
end
def dkN (s : SheetM) : Int := (mostA s (darkG s)).2
theorem dkN_nn {s : SheetM} : 0 ≤ dkN s := mostTo_nn
theorem dkN_le {s : SheetM} (hd : dyeOk s) (hm : small s) : dkN s ≤ 3000 := by
  unfold dkN mostA
  have : ∀ n ≤ s.w.toNat * s.h.toNat, (mostTo (darkG s) s.w.toNat n).2 ≤ 3000 := by
    intro n
    induction n with
    | zero => intro _; rw [mostTo_zero]; decide
    | succ n ih =>
      intro hn
      have hc := cell_in (w := s.w.toNat) (h := s.h.toNat) (n := n) (by omega)
      have h0 := hd (n / s.w.toNat) (n % s.w.toNat) 0 (by omega) (by omega) (by omega)
      have h1 := hd (n / s.w.toNat) (n % s.w.toNat) 1 (by omega) (by omega) (by omega)
      have h2 := hd (n / s.w.toNat) (n % s.w.toNat) 2 (by omega) (by omega) (by omega)
      rw [mostTo]
      split
      · show darkG s _ _ ≤ 3000
        unfold darkG; omega
      · exact ih (by omega)
  exact this _ (Nat.le_refl _)
theorem dkN_down {s : SheetM} {share : Int} (hd : dyeOk s) (hs : 1 ≤ share ∧ share ≤ 15) (hm : small s) (h0 : 0 < dkN s) : dkN (rinseM s share).1 < dkN s := by
  have hr : RinOk s _ (rinseM s share) := RinOk.to (share := share) hd hs hm _ (Nat.le_refl _)
  have hl := low_to hd hs hm _ (Nat.le_refl _)
  by_cases h1 : 0 < dkN (rinseM s share).1
  · generalize hT : (rinseM s share).1 = t at *
    have ew : t.w = s.w := by have := hr.w; rw [hT] at this; exact this
    have eh : t.h = s.h := by have := hr.h; rw [hT] at this; exact this
    have hdy := hr.dye
    rw [hT] at hdy
    unfold dkN mostA at *
    rw [ew, eh] at h1 ⊢
    have hge := fun m (h : m < s.w.toNat * s.h.toNat) => most_ge (g := darkG s) (w := s.w.toNat) h
    have hcc := fun m (h : m < s.w.toNat * s.h.toNat) => cell_in (w := s.w.toNat) (h := s.h.toNat) (n := m) h
    have hw : s.w.toNat ≤ 8 := by omega
    have hh : s.h.toNat ≤ 8 := by omega
    generalize s.w.toNat * s.h.toNat = N at *
    obtain _ | N := N
    · rw [mostTo_zero] at h1; exact absurd h1 (by decide)
    · have hnn : ∀ k < N + 1, 0 ≤ darkG t (k / s.w.toNat) (k % s.w.toNat) := fun k hk => by
        have hc := hcc k hk
        have a0 := hdy (k / s.w.toNat) (k % s.w.toNat) 0 (by omega) (by omega) (by omega)
        have a1 := hdy (k / s.w.toNat) (k % s.w.toNat) 1 (by omega) (by omega) (by omega)
        have a2 := hdy (k / s.w.toNat) (k % s.w.toNat) 2 (by omega) (by omega) (by omega)
        unfold darkG; omega
      obtain ⟨e1, e2⟩ := mostTo_at (g := darkG t) (w := s.w.toNat) (n := N) hnn
      rw [e1] at h1 ⊢
      generalize (mostTo (darkG t) s.w.toNat (N + 1)).1 = m at *
      have hc := hcc m (by omega)
      have a0 := hdy (m / s.w.toNat) (m % s.w.toNat) 0 (by omega) (by omega) (by omega)
      have a1 := hdy (m / s.w.toNat) (m % s.w.toNat) 1 (by omega) (by omega) (by omega)
      have a2 := hdy (m / s.w.toNat) (m % s.w.toNat) 2 (by omega) (by omega) (by omega)
      have l0 := hl m (by omega) 0 (by omega)
      have l1 := hl m (by omega) 1 (by omega)
      have l2 := hl m (by omega) 2 (by omega)
      have g := hge m (by omega)
      unfold lowP at l0 l1 l2
      unfold darkG at h1 g ⊢
      omega
  · omega
def gsum (s : SheetM) (share : Int) : Nat → Nat → Int
  | 0, _ => 0
  | k + 1, q => gsum s share k q + bathO s share k q
noncomputable def ruK (s : SheetM) (share level : Int) : Nat := (List.range 3001).findIdx fun n => decide (dkN (rinIt s share n) ≤ level)
section
variable {s : SheetM} {share level c : Int} {i : Nat}
theorem gsum_zero : upTo (gsum s share 0) 0 3 = fun _ => 0 := by funext q; unfold upTo; split <;> rfl
theorem gsum_succ : gsum s share (i + 1) = fun q => gsum s share i q + bathO s share i q := rfl
theorem gsum_bd (hd : dyeOk s) (hm : small s) (hs : 1 ≤ share ∧ share ≤ 15) (q : Nat) : 0 ≤ gsum s share i q ∧ gsum s share i q ≤ 192000 * (i : Int) := by
  induction i with
  | zero => exact ⟨Int.le_refl _, Int.le_refl _⟩
  | succ i ih =>
    have := bathO_bd (k := i) hd hm hs q
    rw [gsum_succ]
    dsimp only
    omega
theorem dkN_it (hd : dyeOk s) (hm : small s) (hs : 1 ≤ share ∧ share ≤ 15) (h0 : 0 ≤ level) (h : ∀ j < i, level < dkN (rinIt s share j)) : dkN (rinIt s share i) + (i : Int) ≤ 3000 := by
  induction i with
  | zero => have := dkN_le hd hm; rw [rinIt_zero]; omega
  | succ i ih =>
    obtain ⟨h1, h2, _, _⟩ := rinIt_ok (n := i) hd hm hs
    have hi := ih fun j hj => h j (by omega)
    have hl := h i (by omega)
    have := dkN_down h1 hs h2 (by omega)
    rw [rinIt_succ]
    omega
theorem ruK_eq (hd : dyeOk s) (hm : small s) (hs : 1 ≤ share ∧ share ≤ 15) (h0 : 0 ≤ level) (h : ∀ j < i, level < dkN (rinIt s share j)) (hi : dkN (rinIt s share i) ≤ level) : ruK s share level = i := by
  have hb := dkN_it hd hm hs h0 h
  have hn := dkN_nn (s := rinIt s share i)
  unfold ruK
  rw [List.findIdx_eq (by simp; omega)]
  refine ⟨by simpa using hi, fun j hj => ?_⟩
  have := h j hj
  simpa using this
theorem rinM_sok (h : s.Ok) (hd : dyeOk s) (hm : small s) (hs : 1 ≤ share ∧ share ≤ 15) : (rinseM s share).1.Ok := by
  have hr : RinOk s _ (rinseM s share) := RinOk.to (share := share) hd hs hm _ (Nat.le_refl _)
  refine ⟨?_, ?_, fun i j => ?_, fun i j k => ?_, fun i => ?_⟩
  · rw [hr.w]; exact h.w
  · rw [hr.h]; exact h.h
  · rw [hr.wet]; exact h.wet i j
  · by_cases hb : i < 8 ∧ j < 8 ∧ k < 3
    · have a := hr.dye i j k hb.1 hb.2.1 hb.2.2
      have b := hd i j k hb.1 hb.2.1 hb.2.2
      omega
    · rw [hr.out i j k hb]; exact h.dye i j k
  · rw [hr.wax]; exact h.wax i
theorem rinIt_sok (h : s.Ok) (hd : dyeOk s) (hm : small s) (hs : 1 ≤ share ∧ share ≤ 15) : (rinIt s share i).Ok := by
  induction i with
  | zero => exact h
  | succ i ih =>
    obtain ⟨h1, h2, _, _⟩ := rinIt_ok (n := i) hd hm hs
    rw [rinIt_succ]
    exact rinM_sok ih h1 h2 hs
noncomputable def ruC (s : SheetM) (share level : Int) : Int := codeM s (decide (1 ≤ share ∧ share ≤ 15) && decide (0 ≤ level ∧ level ≤ 3000))
noncomputable def ruV (s : SheetM) (share level : Int) : AV :=
  .tup [.agg shSheet (sheetD (if ruC s share level = 0 then rinIt s share (ruK s share level) else zeroSheet)), .int .i64 (if ruC s share level = 0 then (ruK s share level : Int) else 0),
    .agg (.arr 3 (.int .i64)) (a1 .i64 (if ruC s share level = 0 then upTo (gsum s share (ruK s share level)) 0 3 else fun _ => 0)), .int .i64 (ruC s share level)]
theorem ruV_ok (e : ruC s share level = 0) (hk : ruK s share level = i) : ruV s share level = .tup [.agg shSheet (sheetD (rinIt s share i)), .int .i64 (i : Int), .agg (.arr 3 (.int .i64)) (a1 .i64 (upTo (gsum s share i) 0 3)), .int .i64 0] := by simp [ruV, e, hk]
theorem ruV_no (e : ruC s share level = c) (hc : c ≠ 0) : ruV s share level = .tup [.agg shSheet (sheetD zeroSheet), .int .i64 0, .agg (.arr 3 (.int .i64)) (a1 .i64 fun _ => 0), .int .i64 c] := by simp [ruV, e, hc]
end
end Ink
/- What the program means: pressing a fold. No conditions. -/
namespace Ink
open Go
set_option linter.unusedVariables false
theorem u2_comm {α : Type} {f : Nat → Nat → α} {a b a' b' : Nat} {v w : α} (h : ¬ (a = a' ∧ b = b')) : u2 (u2 f a b v) a' b' w = u2 (u2 f a' b' w) a b v := by
  funext i j
  rw [u2_at, u2_at, u2_at, u2_at]
  by_cases h1 : i = a ∧ j = b
  · by_cases h2 : i = a' ∧ j = b'
    · exact absurd ⟨h1.1.symm.trans h2.1, h1.2.symm.trans h2.2⟩ h
    · rw [if_neg h2, if_pos h1, if_pos h1]
  · by_cases h2 : i = a' ∧ j = b'
    · obtain ⟨rfl, rfl⟩ := h2
      simp only [h1, and_self, if_true, if_false]
    · simp only [h1, h2, if_false]
theorem u2_self {α : Type} {f : Nat → Nat → α} {a b : Nat} : u2 f a b (f a b) = f := by
  funext i j
  rw [u2_at]
  split
  · rename_i h; obtain ⟨rfl, rfl⟩ := h; rfl
  · rfl
theorem u3_self {α : Type} {f : Nat → Nat → Nat → α} {a b c : Nat} : u3 f a b c (f a b c) = f := by
  funext i j k
  rw [u3_at]
  split
  · rename_i h; obtain ⟨rfl, rfl, rfl⟩ := h; rfl
  · rfl
/-- How much goes over from a to b. -/
def goes (a b w : Int) : Int := if b < a then ((a - b) * w).tdiv 16 else -(((b - a) * w).tdiv 16)
theorem mul_bd {d w : Int} (hd : 0 ≤ d) (hw : 1 ≤ w ∧ w ≤ 8) : 0 ≤ d * w ∧ d * w ≤ d * 8 := ⟨Int.mul_nonneg hd (by omega), Int.mul_le_mul_of_nonneg_left hw.2 hd⟩
theorem part_bd {d w : Int} (hd : 0 ≤ d) (hw : 1 ≤ w ∧ w ≤ 8) : 0 ≤ (d * w).tdiv 16 ∧ (d * w).tdiv 16 ≤ d := by
  have := mul_bd hd hw
  rw [Int.tdiv_eq_ediv_of_nonneg (by omega)]
  omega
theorem goes_pos {a b w : Int} (h : b < a) (hw : 1 ≤ w ∧ w ≤ 8) : goes a b w = ((a - b) * w).tdiv 16 ∧ 0 ≤ goes a b w ∧ goes a b w ≤ a - b := by
  have := part_bd (d := a - b) (by omega) hw
  unfold goes; rw [if_pos h]; exact ⟨rfl, this⟩
theorem goes_neg {a b w : Int} (h : ¬ b < a) (hw : 1 ≤ w ∧ w ≤ 8) : goes a b w = -(((b - a) * w).tdiv 16) ∧ goes a b w ≤ 0 ∧ a - b ≤ goes a b w := by
  have := part_bd (d := b - a) (by omega) hw
  unfold goes; rw [if_neg h]; exact ⟨rfl, by omega, by omega⟩
theorem goes_bd {a b w c : Int} (hw : 1 ≤ w ∧ w ≤ 8) (ha : 0 ≤ a ∧ a ≤ c) (hb : 0 ≤ b ∧ b ≤ c) : (0 ≤ a - goes a b w ∧ a - goes a b w ≤ c) ∧ (0 ≤ b + goes a b w ∧ b + goes a b w ≤ c) ∧ -c ≤ goes a b w ∧ goes a b w ≤ c := by
  by_cases h : b < a
  · have := goes_pos h hw; omega
  · have := goes_neg h hw; omega
abbrev PrsM := SheetM × Int
noncomputable def prsD (s : SheetM) (p : PairM) (k : Nat) (w : Int) : Int :=
  if (0 < goes (s.dye p.ay.toNat p.ax.toNat k) (s.dye p.by'.toNat p.bx.toNat k) w ∧ s.wet p.ay.toNat p.ax.toNat = 0) ∨ (goes (s.dye p.ay.toNat p.ax.toNat k) (s.dye p.by'.toNat p.bx.toNat k) w < 0 ∧ s.wet p.by'.toNat p.bx.toNat = 0) then 0
  else goes (s.dye p.ay.toNat p.ax.toNat k) (s.dye p.by'.toNat p.bx.toNat k) w
def moveD (s : SheetM) (p : PairM) (k : Nat) (d : Int) : SheetM :=
  { s with dye := u3 (u3 s.dye p.ay.toNat p.ax.toNat k (s.dye p.ay.toNat p.ax.toNat k - d)) p.by'.toNat p.bx.toNat k (s.dye p.by'.toNat p.bx.toNat k + d) }
def moveW (s : SheetM) (p : PairM) (d : Int) : SheetM :=
  { s with wet := u2 (u2 s.wet p.ay.toNat p.ax.toNat (s.wet p.ay.toNat p.ax.toNat - d)) p.by'.toNat p.bx.toNat (s.wet p.by'.toNat p.bx.toNat + d) }
noncomputable def prs1 (w : Int) (st : PrsM) (p : PairM) (k : Nat) : PrsM := (moveD st.1 p k (prsD st.1 p k w), st.2 + sizeM (prsD st.1 p k w))
noncomputable def prsW (w : Int) (st : PrsM) (p : PairM) : PrsM := (moveW st.1 p (goes (st.1.wet p.ay.toNat p.ax.toNat) (st.1.wet p.by'.toNat p.bx.toNat) w), st.2)
noncomputable def prsInk (w : Int) (st : PrsM) (p : PairM) : Nat → PrsM
  | 0 => st
  | k + 1 => prs1 w (prsInk w st p k) p k
noncomputable def prsTo (w : Int) (s : SheetM) (l : List PairM) : Nat → PrsM
  | 0 => (s, 0)
  | i + 1 => match l[i]? with | some p => prsW w (prsInk w (prsTo w s l i) p 3) p | none => prsTo w s l i
theorem prsInk_zero {w st p} : prsInk w st p 0 = st := rfl
theorem prsInk_succ {w st p} {k : Nat} : prsInk w st p (k + 1) = prs1 w (prsInk w st p k) p k := rfl
theorem prsTo_zero {w s l} : prsTo w s l 0 = (s, 0) := rfl
theorem prsTo_succ {w : Int} {s : SheetM} {l : List PairM} {i : Nat} {p : PairM} (h : l[i]? = some p) : prsTo w s l (i + 1) = prsW w (prsInk w (prsTo w s l i) p 3) p := by rw [prsTo, h]
structure Prs (s t : SheetM) : Prop where
  ok : t.Ok
  dye : dyeOk t
  wet : wetOk t
  w : t.w = s.w
  h : t.h = s.h
theorem Prs.small {s t : SheetM} (h : Prs s t) (hm : small s) : small t := by
  have := h.w; have := h.h
  unfold Ink.small at *
  omega
section
variable {s t : SheetM} {p : PairM} {k : Nat} {w d : Int}
theorem prsD_bd (h : Prs s t) (h8 : in8 p.ax p.ay) (g8 : in8 p.bx p.by') (hk : k < 3) (hw : 1 ≤ w ∧ w ≤ 8) :
    (0 ≤ t.dye p.ay.toNat p.ax.toNat k - prsD t p k w ∧ t.dye p.ay.toNat p.ax.toNat k - prsD t p k w ≤ 1000) ∧ (0 ≤ t.dye p.by'.toNat p.bx.toNat k + prsD t p k w ∧ t.dye p.by'.toNat p.bx.toNat k + prsD t p k w ≤ 1000) ∧ -1000 ≤ prsD t p k w ∧ prsD t p k w ≤ 1000 := by
  have h1 := h.dye p.ay.toNat p.ax.toNat k (by omega) (by omega) hk
  have h2 := h.dye p.by'.toNat p.bx.toNat k (by omega) (by omega) hk
  have h3 := goes_bd hw h1 h2
  unfold prsD
  split
  · omega
  · omega
theorem moveD_ok (h : Prs s t) (h8 : in8 p.ax p.ay) (g8 : in8 p.bx p.by') (hk : k < 3)
    (hd : (0 ≤ t.dye p.ay.toNat p.ax.toNat k - d ∧ t.dye p.ay.toNat p.ax.toNat k - d ≤ 1000) ∧ (0 ≤ t.dye p.by'.toNat p.bx.toNat k + d ∧ t.dye p.by'.toNat p.bx.toNat k + d ≤ 1000)) : Prs s (moveD t p k d) := by
  refine ⟨⟨h.ok.w, h.ok.h, h.ok.wet, fun i j q => ?_, h.ok.wax⟩, fun y x q hy hx hq => ?_, h.wet, h.w, h.h⟩
  · show -32768 ≤ u3 _ _ _ _ _ i j q ∧ u3 _ _ _ _ _ i j q < 32768
    rw [u3_at, u3_at]
    split
    · omega
    · split
      · omega
      · exact h.ok.dye i j q
  · show 0 ≤ u3 _ _ _ _ _ y x q ∧ u3 _ _ _ _ _ y x q ≤ 1000
    rw [u3_at, u3_at]
    split
    · omega
    · split
      · omega
      · exact h.dye y x q hy hx hq
theorem moveW_ok (h : Prs s t) (h8 : in8 p.ax p.ay) (g8 : in8 p.bx p.by')
    (hd : (0 ≤ t.wet p.ay.toNat p.ax.toNat - d ∧ t.wet p.ay.toNat p.ax.toNat - d ≤ 200) ∧ (0 ≤ t.wet p.by'.toNat p.bx.toNat + d ∧ t.wet p.by'.toNat p.bx.toNat + d ≤ 200)) : Prs s (moveW t p d) := by
  refine ⟨⟨h.ok.w, h.ok.h, fun i j => ?_, h.ok.dye, h.ok.wax⟩, h.dye, fun y x hy hx => ?_, h.w, h.h⟩
  · show -32768 ≤ u2 _ _ _ _ i j ∧ u2 _ _ _ _ i j < 32768
    rw [u2_at, u2_at]
    split
    · omega
    · split
      · omega
      · exact h.ok.wet i j
  · show 0 ≤ u2 _ _ _ _ y x ∧ u2 _ _ _ _ y x ≤ 200
    rw [u2_at, u2_at]
    split
    · omega
    · split
      · omega
      · exact h.wet y x hy hx
theorem size_bd {d c : Int} (h : -c ≤ d ∧ d ≤ c) : 0 ≤ sizeM d ∧ sizeM d ≤ c := by unfold sizeM maxM; split <;> omega
end
structure PrsOk (s : SheetM) (c : Int) (st : PrsM) : Prop where
  ok : Prs s st.1
  n : 0 ≤ st.2 ∧ st.2 ≤ c
section
variable {s : SheetM} {p : PairM} {k : Nat} {w c : Int} {st : PrsM}
theorem prs1_ok (h : PrsOk s c st) (h8 : in8 p.ax p.ay) (g8 : in8 p.bx p.by') (hk : k < 3) (hw : 1 ≤ w ∧ w ≤ 8) : PrsOk s (c + 1000) (prs1 w st p k) := by
  have hb := prsD_bd h.ok h8 g8 hk hw
  have hn := h.n
  have hz := size_bd hb.2.2
  exact ⟨moveD_ok h.ok h8 g8 hk ⟨hb.1, hb.2.1⟩, by show 0 ≤ st.2 + _ ∧ st.2 + _ ≤ _; omega⟩
theorem prsInk_ok (h : PrsOk s c st) (h8 : in8 p.ax p.ay) (g8 : in8 p.bx p.by') (hw : 1 ≤ w ∧ w ≤ 8) : ∀ k : Nat, k ≤ 3 → PrsOk s (c + 1000 * (k : Int)) (prsInk w st p k) := by
  intro k
  induction k with
  | zero => intro _; rw [prsInk_zero]; simpa using h
  | succ k ih =>
    intro hk
    have := prs1_ok (ih (by omega)) h8 g8 (k := k) (by omega) hw
    rw [prsInk_succ]
    have e : c + 1000 * ((k + 1 : Nat) : Int) = c + 1000 * (k : Int) + 1000 := by omega
    rw [e]; exact this
theorem prsW_bd (h : Prs s st.1) (h8 : in8 p.ax p.ay) (g8 : in8 p.bx p.by') (hw : 1 ≤ w ∧ w ≤ 8) : (0 ≤ st.1.wet p.ay.toNat p.ax.toNat - goes (st.1.wet p.ay.toNat p.ax.toNat) (st.1.wet p.by'.toNat p.bx.toNat) w ∧ st.1.wet p.ay.toNat p.ax.toNat - goes (st.1.wet p.ay.toNat p.ax.toNat) (st.1.wet p.by'.toNat p.bx.toNat) w ≤ 200) ∧ (0 ≤ st.1.wet p.by'.toNat p.bx.toNat + goes (st.1.wet p.ay.toNat p.ax.toNat) (st.1.wet p.by'.toNat p.bx.toNat) w ∧ st.1.wet p.by'.toNat p.bx.toNat + goes (st.1.wet p.ay.toNat p.ax.toNat) (st.1.wet p.by'.toNat p.bx.toNat) w ≤ 200) ∧ -200 ≤ goes (st.1.wet p.ay.toNat p.ax.toNat) (st.1.wet p.by'.toNat p.bx.toNat) w ∧ goes (st.1.wet p.ay.toNat p.ax.toNat) (st.1.wet p.by'.toNat p.bx.toNat) w ≤ 200 := goes_bd hw (h.wet p.ay.toNat p.ax.toNat (by omega) (by omega)) (h.wet p.by'.toNat p.bx.toNat (by omega) (by omega))
theorem prsW_ok (h : PrsOk s c st) (h8 : in8 p.ax p.ay) (g8 : in8 p.bx p.by') (hw : 1 ≤ w ∧ w ≤ 8) : PrsOk s c (prsW w st p) := by
  have hb := prsW_bd h.ok h8 g8 hw
  exact ⟨moveW_ok h.ok h8 g8 ⟨hb.1, hb.2.1⟩, h.n⟩
end
theorem prsTo_ok {s t : SheetM} {f : FoldM} {w : Int} (h : Prs s t) (hm : small s) (hw : 1 ≤ w ∧ w ≤ 8) : ∀ i, i ≤ (pairsM t f).length → PrsOk s (3000 * (i : Int)) (prsTo w t (pairsM t f) i) := by
  intro i
  induction i with
  | zero => exact fun _ => ⟨h, by rw [prsTo_zero]; exact ⟨Int.le_refl _, by simp⟩⟩
  | succ i ih =>
    intro hi
    obtain ⟨p, hp, _, h8, g8⟩ := zj0 (s := t) (f := f) (h.small hm) (i := i) (by omega)
    rw [prsTo_succ hp]
    have := prsW_ok (prsInk_ok (ih (by omega)) h8 g8 hw 3 (by omega)) h8 g8 hw
    have e : (3000 : Int) * ((i + 1 : Nat) : Int) = 3000 * (i : Int) + 1000 * ((3 : Nat) : Int) := by omega
    rw [e]; exact this
noncomputable def pressM (s : SheetM) (f : FoldM) : PrsM := prsTo f.press s (pairsM s f) (pairsM s f).length
noncomputable def puIt (s : SheetM) (f : FoldM) : Nat → SheetM
  | 0 => s
  | n + 1 => (pressM (puIt s f n) f).1
theorem puIt_zero {s f} : puIt s f 0 = s := rfl
theorem puIt_succ {s f} {n : Nat} : puIt s f (n + 1) = (pressM (puIt s f n) f).1 := rfl
theorem pressM_ok {s t : SheetM} {f : FoldM} (h : Prs s t) (hm : small s) (hw : 1 ≤ f.press ∧ f.press ≤ 8) : Prs s (pressM t f).1 := (prsTo_ok (f := f) h hm hw _ (Nat.le_refl _)).ok
theorem puIt_ok {s : SheetM} {f : FoldM} (h : Prs s s) (hm : small s) (hw : 1 ≤ f.press ∧ f.press ≤ 8) {n : Nat} : Prs s (puIt s f n) := by
  induction n with
  | zero => exact h
  | succ n ih => rw [puIt_succ]; exact pressM_ok ih hm hw
theorem valid_prs {s : SheetM} (hs : s.Ok) (hv : validS s) : Prs s s := ⟨hs, valid_dye hv, valid_wet hv, rfl, rfl⟩
noncomputable def puB (s : SheetM) (f : FoldM) (most : Int) (n : Nat) : Bool := decide (offM (puIt s f n) f ≤ most)
noncomputable def puK (s : SheetM) (f : FoldM) (most : Int) : Nat := (List.range 31).findIdx (puB s f most)
noncomputable def puC (s : SheetM) (f : FoldM) (most : Int) : Int := askF s f (decide (0 ≤ most))
noncomputable def puV (s : SheetM) (f : FoldM) (most : Int) : AV :=
  .tup [.int .i64 (if puC s f most = 0 ∧ puK s f most < 31 then (puK s f most : Int) else 0), .int .i64 (if puC s f most = 0 then (if puK s f most < 31 then 0 else 6) else puC s f most)]
section
variable {s : SheetM} {f : FoldM} {most c : Int} {k : Nat}
theorem puK_le : puK s f most ≤ 31 := by
  have := List.findIdx_le_length (p := puB s f most) (xs := List.range 31)
  simpa [puK] using this
theorem puK_hit (hk : k ≤ puK s f most) (h31 : k < 31) (h : offM (puIt s f k) f ≤ most) : puK s f most = k := by
  apply Classical.byContradiction
  intro hne
  have hlt : k < puK s f most := by omega
  have := List.not_of_lt_findIdx (p := puB s f most) (xs := List.range 31) hlt
  rw [List.getElem_range] at this
  have h2 : puB s f most k = true := decide_eq_true h
  rw [h2] at this
  cases this
theorem puK_miss (hk : k ≤ puK s f most) (h31 : k < 31) (h : ¬ offM (puIt s f k) f ≤ most) : k + 1 ≤ puK s f most := by
  apply Classical.byContradiction
  intro hne
  have he : puK s f most = k := by omega
  have hl : (List.range 31).findIdx (puB s f most) < (List.range 31).length := by
    show puK s f most < _; simp; omega
  have := List.findIdx_getElem (w := hl)
  rw [List.getElem_range] at this
  have h2 : puB s f most (puK s f most) = true := this
  rw [he] at h2
  exact h (of_decide_eq_true h2)
theorem puV_ok (h : puC s f most = 0) (hk : puK s f most = k) (h31 : k < 31) : puV s f most = .tup [.int .i64 (k : Int), .int .i64 0] := by
  unfold puV; rw [if_pos ⟨h, by omega⟩, if_pos h, if_pos (by omega), hk]
theorem puV_none (h : puC s f most = 0) (hk : ¬ puK s f most < 31) : puV s f most = .tup [.int .i64 0, .int .i64 6] := by
  unfold puV; rw [if_neg (fun g => hk g.2), if_pos h, if_neg hk]
theorem puV_ne (h : puC s f most = c) (hc : c ≠ 0) : puV s f most = .tup [.int .i64 0, .int .i64 c] := by
  unfold puV; rw [h, if_neg (fun g => hc g.1), if_neg hc]
end
end Ink
/- What one passing over reads and writes. No conditions. -/
namespace Ink
open Go
set_option linter.unusedVariables false
theorem go_by {x y w : Int} (hyx : y ≤ x) (hy : 0 ≤ y) (hx : x ≤ 1000) (hw : 1 ≤ w ∧ w ≤ 8) :
    IntKind.i16.wrap (IntKind.i64.wrap ((IntKind.i64.wrap (IntKind.i64.wrap (IntKind.i16.wrap (x - y)) * IntKind.i64.wrap w)).tdiv 16)) = ((x - y) * w).tdiv 16 := by
  have h1 := part_bd (d := x - y) (by omega) hw
  have h2 := mul_bd (d := x - y) (by omega) hw
  rw [wrap_i16 (a := x - y) (by omega) (by omega), wrap_i64 (a := x - y) (by omega) (by omega), wrap_i64 (a := w) (by omega) (by omega), wrap_i64 (a := (x - y) * w) (by omega) (by omega)]
  rw [wrap_i64 (a := ((x - y) * w).tdiv 16) (by omega) (by omega), wrap_i16 (by omega) (by omega)]
theorem size_nn {d : Int} (h : 0 ≤ d) : sizeM d = d := by unfold sizeM maxM; split <;> omega
theorem size_np {d : Int} (h : 0 ≤ d) : sizeM (-d) = d := by unfold sizeM maxM; split <;> omega
section
variable {t : SheetM} {p : PairM} {k : Nat} {w d : Int}
theorem prsD_one (h : t.dye p.by'.toNat p.bx.toNat k < t.dye p.ay.toNat p.ax.toNat k) (hw : 1 ≤ w ∧ w ≤ 8) (ho : t.wet p.ay.toNat p.ax.toNat ≠ 0) : prsD t p k w = ((t.dye p.ay.toNat p.ax.toNat k - t.dye p.by'.toNat p.bx.toNat k) * w).tdiv 16 := by
  have hg : 0 ≤ goes (t.dye p.ay.toNat p.ax.toNat k) (t.dye p.by'.toNat p.bx.toNat k) w := (goes_pos h hw).2.1
  unfold prsD
  rw [if_neg (by rintro (⟨_, h2⟩ | ⟨h1, _⟩); exact ho h2; omega)]
  exact (goes_pos h hw).1
theorem prsD_one0 (h : t.dye p.by'.toNat p.bx.toNat k < t.dye p.ay.toNat p.ax.toNat k) (hw : 1 ≤ w ∧ w ≤ 8) (ho : t.wet p.ay.toNat p.ax.toNat = 0) : prsD t p k w = 0 := by
  have hg : 0 ≤ goes (t.dye p.ay.toNat p.ax.toNat k) (t.dye p.by'.toNat p.bx.toNat k) w := (goes_pos h hw).2.1
  unfold prsD
  split
  · rfl
  · rename_i hn
    by_cases h0 : 0 < goes (t.dye p.ay.toNat p.ax.toNat k) (t.dye p.by'.toNat p.bx.toNat k) w
    · exact absurd (Or.inl ⟨h0, ho⟩) hn
    · omega
theorem prsD_two (h : ¬ t.dye p.by'.toNat p.bx.toNat k < t.dye p.ay.toNat p.ax.toNat k) (hw : 1 ≤ w ∧ w ≤ 8) (ho : t.wet p.by'.toNat p.bx.toNat ≠ 0) : prsD t p k w = -(((t.dye p.by'.toNat p.bx.toNat k - t.dye p.ay.toNat p.ax.toNat k) * w).tdiv 16) := by
  have hg : goes (t.dye p.ay.toNat p.ax.toNat k) (t.dye p.by'.toNat p.bx.toNat k) w ≤ 0 := (goes_neg h hw).2.1
  unfold prsD
  rw [if_neg (by rintro (⟨h1, _⟩ | ⟨_, h2⟩); omega; exact ho h2)]
  exact (goes_neg h hw).1
theorem prsD_two0 (h : ¬ t.dye p.by'.toNat p.bx.toNat k < t.dye p.ay.toNat p.ax.toNat k) (hw : 1 ≤ w ∧ w ≤ 8) (ho : t.wet p.by'.toNat p.bx.toNat = 0) : prsD t p k w = 0 := by
  have hg : goes (t.dye p.ay.toNat p.ax.toNat k) (t.dye p.by'.toNat p.bx.toNat k) w ≤ 0 := (goes_neg h hw).2.1
  unfold prsD
  split
  · rfl
  · rename_i hn
    by_cases h0 : goes (t.dye p.ay.toNat p.ax.toNat k) (t.dye p.by'.toNat p.bx.toNat k) w < 0
    · exact absurd (Or.inr ⟨h0, ho⟩) hn
    · omega
theorem moveD_zero : moveD t p k 0 = t := by
  unfold moveD
  rw [Int.sub_zero, Int.add_zero, u3_self, u3_self]
theorem moveD_eq : moveD t p k d = { w := t.w, h := t.h, wet := t.wet, dye := u3 (u3 t.dye p.ay.toNat p.ax.toNat k (t.dye p.ay.toNat p.ax.toNat k - d)) p.by'.toNat p.bx.toNat k (t.dye p.by'.toNat p.bx.toNat k + d), wax := t.wax } := rfl
theorem moveD_swap (hne : ¬ (p.ax = p.bx ∧ p.ay = p.by')) (h8 : in8 p.ax p.ay) (g8 : in8 p.bx p.by') : moveD t p k (-d) = { w := t.w, h := t.h, wet := t.wet, dye := u3 (u3 t.dye p.by'.toNat p.bx.toNat k (t.dye p.by'.toNat p.bx.toNat k - d)) p.ay.toNat p.ax.toNat k (t.dye p.ay.toNat p.ax.toNat k + d), wax := t.wax } := by
  rw [moveD_eq, u3_comm (fun h => hne ⟨by omega, by omega⟩), Int.sub_neg, ← Int.sub_eq_add_neg]
theorem moveW_zero : moveW t p 0 = t := by
  unfold moveW
  rw [Int.sub_zero, Int.add_zero, u2_self, u2_self]
theorem moveW_eq : moveW t p d = { w := t.w, h := t.h, wet := u2 (u2 t.wet p.ay.toNat p.ax.toNat (t.wet p.ay.toNat p.ax.toNat - d)) p.by'.toNat p.bx.toNat (t.wet p.by'.toNat p.bx.toNat + d), dye := t.dye, wax := t.wax } := rfl
theorem moveW_swap (hne : ¬ (p.ax = p.bx ∧ p.ay = p.by')) (h8 : in8 p.ax p.ay) (g8 : in8 p.bx p.by') : moveW t p (-d) = { w := t.w, h := t.h, wet := u2 (u2 t.wet p.by'.toNat p.bx.toNat (t.wet p.by'.toNat p.bx.toNat - d)) p.ay.toNat p.ax.toNat (t.wet p.ay.toNat p.ax.toNat + d), dye := t.dye, wax := t.wax } := by
  rw [moveW_eq, u2_comm (fun h => hne ⟨by omega, by omega⟩), Int.sub_neg, ← Int.sub_eq_add_neg]
theorem u3_AB (hne : ¬ (p.ax = p.bx ∧ p.ay = p.by')) (h8 : in8 p.ax p.ay) (g8 : in8 p.bx p.by') {v : Int} {f : Nat → Nat → Nat → Int} : u3 f p.ay.toNat p.ax.toNat k v p.by'.toNat p.bx.toNat k = f p.by'.toNat p.bx.toNat k := by rw [u3_at, if_neg (fun h => hne ⟨by omega, by omega⟩)]
theorem u3_BA (hne : ¬ (p.ax = p.bx ∧ p.ay = p.by')) (h8 : in8 p.ax p.ay) (g8 : in8 p.bx p.by') {v : Int} {f : Nat → Nat → Nat → Int} : u3 f p.by'.toNat p.bx.toNat k v p.ay.toNat p.ax.toNat k = f p.ay.toNat p.ax.toNat k := by rw [u3_at, if_neg (fun h => hne ⟨by omega, by omega⟩)]
theorem u2_AB (hne : ¬ (p.ax = p.bx ∧ p.ay = p.by')) (h8 : in8 p.ax p.ay) (g8 : in8 p.bx p.by') {v : Int} {f : Nat → Nat → Int} : u2 f p.ay.toNat p.ax.toNat v p.by'.toNat p.bx.toNat = f p.by'.toNat p.bx.toNat := by rw [u2_at, if_neg (fun h => hne ⟨by omega, by omega⟩)]
theorem u2_BA (hne : ¬ (p.ax = p.bx ∧ p.ay = p.by')) (h8 : in8 p.ax p.ay) (g8 : in8 p.bx p.by') {v : Int} {f : Nat → Nat → Int} : u2 f p.by'.toNat p.bx.toNat v p.ay.toNat p.ax.toNat = f p.ay.toNat p.ax.toNat := by rw [u2_at, if_neg (fun h => hne ⟨by omega, by omega⟩)]
end
end Ink
/- Lists of sheets that come from outside, and lists of sheets that are filled. No conditions. -/
namespace Ink
open Go Go.ChangeShapes Go.WideShapes Go.RowKit
def valI : DV → Int
  | .int _ n => n
  | _ => 0
def nth : DV → Nat → DV
  | .arr f, i => f i
  | d, _ => d
theorem wfu8 {n : Int} (h : (Lit.int .u8 n).wf = true) : 0 ≤ n ∧ n < 256 := by
  simp [Lit.wf, IntKind.min, IntKind.max, IntKind.signed, IntKind.bits] at h; omega
theorem leaf_of {k : IntKind} {v : DV} (h : Has (.int k) v) (hw : Wf (.int k) v) : v = .int k (valI v) ∧ (Lit.int k (valI v)).wf = true := by
  match v, h, hw with
  | .int j n, h, hw => cases h; exact ⟨rfl, hw⟩
theorem arr_of {n : Nat} {e : Sh} {v : DV} (h : Has (.arr n e) v) (hw : Wf (.arr n e) v) : (∀ i, i < n → Has e (nth v i) ∧ Wf e (nth v i)) ∧ flat (.arr n e) v = (List.range n).flatMap fun i => flat e (nth v i) := by
  match v, h, hw with
  | .arr f, h, hw => exact ⟨fun i hi => ⟨h i hi, hw i hi⟩, rfl⟩
theorem flat_arr {n : Nat} {e : Sh} {f : Nat → DV} : flat (.arr n e) (.arr f) = (List.range n).flatMap fun i => flat e (f i) := rfl
theorem sheetX_of {v : DV} (h : Has shSheet v) (hw : Wf shSheet v) : ∃ s : SheetM, s.Ok ∧ flat shSheet v = flat shSheet (sheetD s) := by
  match v, h, hw with
  | .cons (.int _ a) (.cons (.int _ b) (.cons vw (.cons vd (.cons vx .unit)))), h, hw =>
    obtain ⟨rfl, rfl, h3, h4, h5, _⟩ := h
    obtain ⟨w1, w2, w3, w4, w5, _⟩ := hw
    obtain ⟨p3, q3⟩ := arr_of h3 w3
    obtain ⟨p4, q4⟩ := arr_of h4 w4
    obtain ⟨p5, q5⟩ := arr_of h5 w5
    have r3 := fun i (hi : i < 8) => arr_of (p3 i hi).1 (p3 i hi).2
    have r4 := fun i (hi : i < 8) => arr_of (p4 i hi).1 (p4 i hi).2
    have t4 := fun i (hi : i < 8) j (hj : j < 8) => arr_of ((r4 i hi).1 j hj).1 ((r4 i hi).1 j hj).2
    have l3 := fun i (hi : i < 8) j (hj : j < 8) => leaf_of ((r3 i hi).1 j hj).1 ((r3 i hi).1 j hj).2
    have l4 := fun i (hi : i < 8) j (hj : j < 8) k (hk : k < 3) => leaf_of ((t4 i hi j hj).1 k hk).1 ((t4 i hi j hj).1 k hk).2
    have l5 := fun i (hi : i < 8) => leaf_of (p5 i hi).1 (p5 i hi).2
    refine ⟨⟨a, b, fun i j => if i < 8 ∧ j < 8 then valI (nth (nth vw i) j) else 0, fun i j k => if i < 8 ∧ j < 8 ∧ k < 3 then valI (nth (nth (nth vd i) j) k) else 0, fun i => if i < 8 then valI (nth vx i) else 0⟩, ⟨wf8 w1, wf8 w2, fun i j => ?_, fun i j k => ?_, fun i => ?_⟩, ?_⟩
    · dsimp only
      split
      · rename_i hc; exact wf16 (l3 i hc.1 j hc.2).2
      · omega
    · dsimp only
      split
      · rename_i hc; exact wf16 (l4 i hc.1 j hc.2.1 k hc.2.2).2
      · omega
    · dsimp only
      split
      · rename_i hc; exact wfu8 (l5 i hc).2
      · omega
    · have f3 : flat (.arr 8 (.arr 8 (.int .i16))) vw = flat (.arr 8 (.arr 8 (.int .i16))) (a2 .i16 fun i j => if i < 8 ∧ j < 8 then valI (nth (nth vw i) j) else 0) := by
        rw [q3]
        unfold a2
        rw [flat_arr]
        refine flatMap_ext fun i hi => ?_
        rw [(r3 i hi).2]
        unfold a1
        rw [flat_arr]
        refine flatMap_ext fun j hj => ?_
        dsimp only
        rw [(l3 i hi j hj).1, if_pos ⟨hi, hj⟩]
        rfl
      have f4 : flat (.arr 8 (.arr 8 (.arr 3 (.int .i16)))) vd = flat (.arr 8 (.arr 8 (.arr 3 (.int .i16)))) (a3 .i16 fun i j k => if i < 8 ∧ j < 8 ∧ k < 3 then valI (nth (nth (nth vd i) j) k) else 0) := by
        rw [q4]
        unfold a3
        rw [flat_arr]
        refine flatMap_ext fun i hi => ?_
        rw [(r4 i hi).2]
        unfold a2
        rw [flat_arr]
        refine flatMap_ext fun j hj => ?_
        rw [(t4 i hi j hj).2]
        unfold a1
        rw [flat_arr]
        refine flatMap_ext fun k hk => ?_
        dsimp only
        rw [(l4 i hi j hj k hk).1, if_pos ⟨hi, hj, hk⟩]
        rfl
      have f5 : flat (.arr 8 (.int .u8)) vx = flat (.arr 8 (.int .u8)) (a1 .u8 fun i => if i < 8 then valI (nth vx i) else 0) := by
        rw [q5]
        unfold a1
        rw [flat_arr]
        refine flatMap_ext fun i hi => ?_
        dsimp only
        rw [(l5 i hi).1, if_pos hi]
        rfl
      show [Value.int .i8 a] ++ ([Value.int .i8 b] ++ (flat _ vw ++ (flat _ vd ++ (flat _ vx ++ [])))) = [Value.int .i8 a] ++ ([Value.int .i8 b] ++ (flat _ (a2 .i16 _) ++ (flat _ (a3 .i16 _) ++ (flat _ (a1 .u8 _) ++ []))))
      rw [f3, f4, f5]
/-! ### Lists of sheets -/
def fillS (N : List SheetM) (i : Nat) : List DV := (N.take i ++ List.replicate (N.length - i) zeroSheet).map sheetD
section
variable {N : List SheetM} {i : Nat}
theorem fillS_zero : fillS N 0 = List.replicate N.length (sheetD zeroSheet) := by unfold fillS; simp
theorem fillS_all : fillS N N.length = N.map sheetD := by unfold fillS; simp
theorem fillS_len (h : i ≤ N.length) : (fillS N i).length = N.length := by unfold fillS; simp; omega
theorem fillS_get (h : i < N.length) : (fillS N i)[i]? = some (sheetD zeroSheet) := by
  unfold fillS
  rw [List.getElem?_map, List.getElem?_append_right (by simp; omega), List.getElem?_replicate]
  rw [if_pos (by simp; omega)]
  rfl
theorem fillS_set (h : i < N.length) : (fillS N i).set i (sheetD N[i]) = fillS N (i + 1) := by
  unfold fillS
  rw [← List.map_set]
  congr 1
  rw [List.set_append_right _ _ (by simp; omega), List.take_succ_eq_append_getElem h, List.append_assoc]
  congr 1
  rw [show i - (N.take i).length = 0 by simp; omega, show N.length - i = (N.length - (i + 1)) + 1 by omega, List.replicate_succ]
  rfl
end
end Ink
/- A reader that is proved for a view of one value (a window of one) reads a value that lies anywhere in a block. No conditions. -/
namespace Ink
open Go
def freeA : AV → Bool
  | .int _ _ => true
  | .bool _ => true
  | .str _ => true
  | .agg _ _ => true
  | .slc (_ + 1) _ _ => true
  | _ => false
theorem freeA_Rv {a : AV} (h : freeA a = true) {ρ : Nat → Nat} {S S' : BSh} {T : List BSh} {w : World} {x : Value} (hr : Rv ρ (S :: T) w a x) : Rv ρ (S' :: T) w a x := by
  cases a with
  | slc b lo len =>
    cases b with
    | zero => simp [freeA] at h
    | succ b => exact hr
  | int _ _ => exact hr
  | bool _ => exact hr
  | str _ => exact hr
  | agg _ _ => exact hr
  | _ => simp [freeA] at h
theorem freeA_Rvs {S S' : BSh} {T : List BSh} {ρ : Nat → Nat} {w : World} : ∀ {l : List AV} {vs : List Value}, l.all freeA = true → Rvs ρ (S :: T) w l vs → Rvs ρ (S' :: T) w l vs
  | [], [], _, h => h
  | a :: l, v :: vs, hp, h => by
    simp only [List.all_cons, Bool.and_eq_true] at hp
    exact ⟨freeA_Rv hp.1 h.1, freeA_Rvs hp.2 h.2⟩
  | [], _ :: _, _, h => h.elim
  | _ :: _, [], _, h => h.elim
theorem noRef_RB {B : Blk} (h : noRef B = true) {ρ ρ' : Nat → Nat} {S S' : List BSh} {w w' : World} {o : Option Obj} (hr : RB ρ S w B o) : RB ρ' S' w' B o := by
  cases B with
  | ref _ => simp [noRef] at h
  | dead _ => simp [noRef] at h
  | data _ _ => exact hr
  | seq _ _ _ => exact hr
  | win _ _ _ => exact hr
/-- Where in a block a value lies. -/
def Lies (B : Blk) (p : List Nat) (o : Nat) (σ : Sh) (x : DV) : Prop :=
  (B.sh).at? p = some (o, σ) ∧ noRef B = true ∧ ∀ ρ S w ob, RB ρ S w B ob → RB ρ S w (.win o σ [x]) ob
theorem Lies.data {σ : Sh} {x : DV} : Lies (.data σ x) [] 0 σ x := by
  refine ⟨by simp [Blk.sh, BSh.at?, Sh.at?], rfl, fun ρ S w ob h => ?_⟩
  obtain ⟨h1, T, h2⟩ := h
  refine ⟨fun y hy => ?_, _, T, _, h2, ?_⟩
  · simp at hy; subst hy; exact h1
  · simpa using LiesAt.self (flat σ x)
theorem Lies.seq {wr : Bool} {σ : Sh} {D : List DV} {i : Nat} {x : DV} (hx : D[i]? = some x) : Lies (.seq wr σ D) [i] (i * σ.size) σ x := by
  refine ⟨by simp [Blk.sh, BSh.at?, Sh.at?], rfl, fun ρ S w ob h => ?_⟩
  obtain ⟨h1, c, T, fz, h2, h3, _⟩ := h
  refine ⟨fun y hy => ?_, c, T, fz, h2, ?_⟩
  · simp at hy; subst hy; exact h1 _ (List.mem_of_getElem? hx)
  · simpa using (flatMap_at h1 hx).upto h3
theorem ACall.view {P : Program} {f : FuncId} {rest : List AV} {σ : Sh} {x : DV} {v : AV} {N : Heap} (h : ∀ o, ACall P [] f (.ptr 0 [0] σ :: rest) [.win o σ [x]] v (.win o σ [x] :: N)) (hrest : rest.all freeA = true) (hv : freeA v = true) (hN : noRefs N = true)
    {B : Blk} {p : List Nat} {o : Nat} (hB : Lies B p o σ x) : ACall P [] f (.ptr 0 p σ :: rest) [B] v (B :: N) := by
  refine ⟨(h 0).1, fun ρ w vs hR hA => ?_⟩
  obtain ⟨hat, hnr, hwin⟩ := hB
  cases vs with
  | nil => exact hA.elim
  | cons y ys =>
    obtain ⟨⟨s, o', hs, ho, hy⟩, hys⟩ := hA
    have hs' : s = B.sh := by
      have : (shs [B])[0]? = some B.sh := rfl
      rw [this] at hs; cases hs; rfl
    subst hs'
    rw [hat] at ho
    cases ho
    have hb0 : RB ρ (shs [B]) w B w.heap[ρ 0]? := hR.blk 0 B rfl
    have hR' : Rel ρ [.win o σ [x]] w := by
      refine ⟨fun i C hi => ?_, fun i j C D hi hj hne _ _ => ?_⟩
      · cases i with
        | zero =>
          simp at hi
          subst hi
          exact noRef_RB (B := .win o σ [x]) rfl (hwin _ _ _ _ hb0)
        | succ i => simp at hi
      · have := get_lt hi
        have := get_lt hj
        simp at *
        omega
    have hA' : Rvs ρ (shs [.win o σ [x]]) w (.ptr 0 [0] σ :: rest) (y :: ys) :=
      ⟨⟨.win o σ, o, rfl, by simp [BSh.at?, Sh.at?], hy⟩, freeA_Rvs hrest hys⟩
    refine ((h o).2 ρ w (y :: ys) hR' hA').mono fun e w' hq => ?_
    obtain ⟨r, ρ', rfl, inv, hr⟩ := hq
    have hsz : ρ 0 < w.heap.size := by
      rcases hw : w.heap[ρ 0]? with _ | ob
      · rw [hw] at hb0
        have := hwin _ _ _ _ hb0
        obtain ⟨_, c, T, fz, h2, _⟩ := this
        cases h2
      · exact (Array.getElem?_eq_some_iff.1 hw).1
    have hpre : ρ' 0 = ρ 0 := inv.pre 0 (by simp [shs])
    have hold : w'.heap[ρ 0]? = w.heap[ρ 0]? := inv.old (ρ 0) hsz fun i hi => by simp at hi
    have hnew : ∀ j, j < N.length → w.heap.size ≤ ρ' (j + 1) := fun j hj => inv.new (j + 1) (by simp [shs]) (by simpa using hj)
    refine ⟨r, ρ', rfl, ⟨⟨fun i C hi => ?_, fun i j C D hi hj hne hC hD => ?_⟩, inv.os, inv.tape, inv.out, inv.size, fun b hb _ => inv.old b hb fun i hi => by simp at hi, inv.sz, fun i hi => inv.pre i (by simpa [shs] using hi), fun i h1 h2 => inv.new i (by simpa [shs] using h1) (by simpa using h2), ⟨shs N, rfl⟩⟩, ?_⟩
    · cases i with
      | zero =>
        simp at hi
        subst hi
        rw [hpre, hold]
        exact noRef_RB hnr hb0
      | succ i =>
        have hi' : N[i]? = some C := by simpa using hi
        have := inv.rel.blk (i + 1) C (by simpa using hi)
        exact noRef_RB (List.all_eq_true.1 hN _ (List.mem_of_getElem? hi')) this
    · cases i with
      | zero =>
        cases j with
        | zero => exact absurd rfl hne
        | succ j =>
          have := hnew j (get_lt (show N[j]? = some D by simpa using hj))
          rw [hpre]; omega
      | succ i =>
        cases j with
        | zero =>
          have := hnew i (get_lt (show N[i]? = some C by simpa using hi))
          rw [hpre]; omega
        | succ j => exact inv.rel.sep (i + 1) (j + 1) C D (by simpa using hi) (by simpa using hj) hne hC hD
    · exact freeA_Rv hv hr
/-- A reader without new blocks, in any heap. -/
theorem ACall.viewAt {P : Program} {f : FuncId} {rest : List AV} {σ : Sh} {x : DV} {v : AV} (h : ∀ o, ACall P [] f (.ptr 0 [0] σ :: rest) [.win o σ [x]] v [.win o σ [x]]) (hrest : rest.all freeA = true) (hrp : plains rest = true) (hv : freeA v = true) (hvp : plain v = true)
    {H : Heap} {b : Nat} {B : Blk} {p : List Nat} {o : Nat} (hb : H[b]? = some B) (hB : Lies B p o σ x) : ACall P [] f (.ptr b p σ :: rest) H v H := by
  refine (ACall.view (N := []) h hrest hv rfl hB).at1 hB.2.1 hb ?_ ?_ hvp
  · exact ⟨by simp [inScope], (plains_ren (σ := id) hrp).2⟩
  · show (ren _ _ :: rens _ _) = _
    rw [(plains_ren (m := 0) hrp).1]
    simp [ren, kap]
/-- A reader that makes one list, in any heap. -/
theorem ACall.viewNew {P : Program} {f : FuncId} {σ : Sh} {x : DV} {n : Nat} {e : Sh} {D : List DV} (h : ∀ o, ACall P [] f [.ptr 0 [0] σ] [.win o σ [x]] (.slc 1 0 n) [.win o σ [x], .seq true e D])
    {H : Heap} {b : Nat} {B : Blk} {p : List Nat} {o : Nat} (hb : H[b]? = some B) (hB : Lies B p o σ x) : ACall P [] f [.ptr b p σ] H (.slc H.length 0 n) (H ++ [.seq true e D]) := by
  have hr : ∀ κ, renB κ B = B := fun κ => by have := hB.2.1; cases B <;> first | rfl | simp [noRef] at this
  have hl : B.lv = true := by have := hB.2.1; cases B <;> first | rfl | simp [noRef] at this
  have hsc : inScopeB 1 B := by have := hB.2.1; cases B <;> first | trivial | simp [noRef] at this
  have := ACall.frame1 (ACall.view (N := [.seq true e D]) h rfl rfl rfl hB) hb hr hr (by simp [inScopes, inScope]) hsc (by simp) (Or.inl rfl) hl rfl
  simpa [rens, ren, kap, renB, set_same hb] using this
end Ink
/- What the program means: stacks. No conditions. -/
namespace Ink
open Go
def hdS (L : List SheetM) : SheetM := L.headD zeroSheet
def sameW (L : List SheetM) (s : SheetM) : Prop := s.w = (hdS L).w ∧ s.h = (hdS L).h
instance {L s} : Decidable (sameW L s) := by unfold sameW; infer_instance
noncomputable def badS (L : List SheetM) (s : SheetM) : Bool := !decide (validS s) || !decide (sameW L s)
def stackP (L : List SheetM) : Prop := L.length ≤ 6 ∧ ∀ s ∈ L, validS s ∧ sameW L s
noncomputable instance {L} : Decidable (stackP L) := Classical.propDecidable _
section
variable {L : List SheetM} {i : Nat} {s : SheetM}
theorem badS_iff : badS L s = false ↔ validS s ∧ sameW L s := by
  unfold badS
  rw [Bool.or_eq_false_iff, Bool.not_eq_false', Bool.not_eq_false', decide_eq_true_eq, decide_eq_true_eq]
theorem hd_get (h : 0 < L.length) : L[0]? = some (hdS L) := by
  cases L with
  | nil => simp at h
  | cons a l => rfl
theorem stack_any : L.any (badS L) = false ↔ ∀ s ∈ L, validS s ∧ sameW L s := by
  rw [List.any_eq_false]
  constructor
  · intro h s hs
    exact badS_iff.1 (by have := h s hs; simpa using this)
  · intro h s hs
    rw [badS_iff.2 (h s hs)]
    decide
theorem stack_ok (h : L.length ≤ 6) (ha : L.any (badS L) = false) : stackP L := ⟨h, stack_any.1 ha⟩
theorem stack_no (ha : L.any (badS L) = true) : ¬ stackP L := fun h => by
  have := stack_any.2 h.2
  rw [ha] at this
  cases this
theorem stack_big (h : ¬ L.length ≤ 6) : ¬ stackP L := fun g => h g.1
theorem stack_at (h : stackP L) (hi : i < L.length) : validS L[i] ∧ sameW L L[i] := h.2 _ (List.getElem_mem hi)
end
noncomputable def stC (L : List SheetM) (r : Bool) : Int := if ¬ stackP L then 1 else if r = true then 0 else 2
theorem stC_cases (L : List SheetM) (r : Bool) : (stC L r = 0 ∧ stackP L ∧ r = true) ∨ (stC L r = 1 ∧ ¬ stackP L) ∨ (stC L r = 2 ∧ stackP L ∧ r = false) := by
  unfold stC
  by_cases h : stackP L
  · cases r <;> simp [h]
  · simp [h]
/-! Dyes and water of a stack -/
def sumsM (s : SheetM) (k : Nat) : Int := sumAll fun y x => s.dye y x k
def dyeOf (L : List SheetM) : Nat → Nat → Int
  | 0, _ => 0
  | i + 1, k => dyeOf L i k + sumsM (L.getD i zeroSheet) k
theorem dyeOf_zero {L} : upTo (dyeOf L 0) 0 3 = fun _ => 0 := by funext q; unfold upTo; split <;> rfl
theorem dyeOf_succ {L : List SheetM} {i : Nat} (h : i < L.length) : dyeOf L (i + 1) = fun k => dyeOf L i k + sumsM L[i] k := by
  funext k
  rw [dyeOf, List.getD_eq_getElem?_getD, List.getElem?_eq_getElem h]; rfl
theorem sums_bd {s : SheetM} (hs : s.Ok) (k : Nat) : -2097152 ≤ sumsM s k ∧ sumsM s k ≤ 2097152 := by
  unfold sumsM sumAll
  dsimp only
  have := sumTo_bd (f := fun y => sumTo (fun x => s.dye y x k) 8) (n := 8) (c := 262144) (by omega) (by omega) (fun y _ => by
    have := sumTo_bd (f := fun x => s.dye y x k) (n := 8) (c := 32768) (by omega) (by omega) (fun x _ => by have := hs.dye y x k; omega)
    omega)
  omega
theorem dyeOf_bd {L : List SheetM} (hs : ∀ s ∈ L, s.Ok) {i : Nat} (hi : i ≤ L.length) (k : Nat) : -2097152 * (i : Int) ≤ dyeOf L i k ∧ dyeOf L i k ≤ 2097152 * (i : Int) := by
  induction i with
  | zero => exact ⟨Int.le_refl _, Int.le_refl _⟩
  | succ i ih =>
    have h1 := ih (by omega)
    have h2 := sums_bd (hs _ (List.getElem_mem (show i < L.length by omega))) k
    rw [dyeOf_succ (by omega)]
    dsimp only
    omega
theorem sums_cells {s : SheetM} (hv : validS s) : upTo (fun k => sumCells s (fun y x => s.dye y x k) (s.w.toNat * s.h.toNat)) 0 3 = upTo (sumsM s) 0 3 := by
  funext k
  unfold upTo
  split
  · rename_i hk
    exact sumCells_all (g := fun y x => s.dye y x k) (valid_small hv) fun y hy x hx hn => (valid_out hv hx hy hn).2 k hk
  · rfl
noncomputable def dyeV (L : List SheetM) : AV := .tup [.agg (.arr 3 (.int .i64)) (a1 .i64 (if stC L true = 0 then upTo (dyeOf L L.length) 0 3 else fun _ => 0)), .int .i64 (stC L true)]
theorem dyeV_ok {L : List SheetM} (h : stC L true = 0) : dyeV L = .tup [.agg (.arr 3 (.int .i64)) (a1 .i64 (upTo (dyeOf L L.length) 0 3)), .int .i64 0] := by unfold dyeV; rw [if_pos h, h]
theorem dyeV_no {L : List SheetM} (h : stC L true = 1) : dyeV L = .tup [.agg (.arr 3 (.int .i64)) (a1 .i64 fun _ => 0), .int .i64 1] := by unfold dyeV; rw [h, if_neg (by decide)]
theorem nS_all {N : List SheetM} (h : ∀ s ∈ N, s.Ok) : ∀ s ∈ N.map nS, s.Ok := fun s hs => by
  obtain ⟨t, ht, rfl⟩ := List.mem_map.1 hs
  exact nS_Ok (h t ht)
theorem nS_len {N : List SheetM} {c : Nat} (h : N.length ≤ c) : (N.map nS).length ≤ c := by rw [List.length_map]; exact h
theorem nil_all : ∀ s ∈ ([] : List SheetM), s.Ok := fun s h => by simp at h
end Ink
/- What the program means: drying of stacks. No conditions. -/
namespace Ink
open Go
set_option linter.unusedVariables false
def cellW (s : SheetM) (n : Nat) : Int := s.wet (n / s.w.toNat) (n % s.w.toNat)
def dyTo (b : Int) (s : SheetM) : Nat → SheetM × Int
  | 0 => (s, 0)
  | n + 1 => ({ (dyTo b s n).1 with wet := u2 (dyTo b s n).1.wet (n / s.w.toNat) (n % s.w.toNat) ((dyTo b s n).1.wet (n / s.w.toNat) (n % s.w.toNat) - minM b ((dyTo b s n).1.wet (n / s.w.toNat) (n % s.w.toNat))) },
      (dyTo b s n).2 + minM b ((dyTo b s n).1.wet (n / s.w.toNat) (n % s.w.toNat)))
abbrev nCells (s : SheetM) : Nat := s.w.toNat * s.h.toNat
def watT (s : SheetM) : Int := sumCells s s.wet (nCells s)
section
variable {s t : SheetM} {b : Int} {n m N : Nat}
theorem dyTo_zero : dyTo b s 0 = (s, 0) := rfl
theorem dyTo_succ : dyTo b s (n + 1) = ({ (dyTo b s n).1 with wet := u2 (dyTo b s n).1.wet (n / s.w.toNat) (n % s.w.toNat) ((dyTo b s n).1.wet (n / s.w.toNat) (n % s.w.toNat) - minM b ((dyTo b s n).1.wet (n / s.w.toNat) (n % s.w.toNat))) },
      (dyTo b s n).2 + minM b ((dyTo b s n).1.wet (n / s.w.toNat) (n % s.w.toNat))) := rfl
theorem dyTo_same : (dyTo b s n).1.w = s.w ∧ (dyTo b s n).1.h = s.h ∧ (dyTo b s n).1.dye = s.dye ∧ (dyTo b s n).1.wax = s.wax := by
  induction n with
  | zero => exact ⟨rfl, rfl, rfl, rfl⟩
  | succ n ih => exact ih
theorem minM_bd {a c : Int} (ha : 0 ≤ a) (hc : 0 ≤ c ∧ c ≤ 200) : 0 ≤ minM a c ∧ minM a c ≤ c := by unfold minM; split <;> omega
theorem sumTo_u2 {f : Nat → Nat → Int} {w : Nat} {v : Int} (h : n < N) : sumTo (fun m => u2 f (n / w) (n % w) v (m / w) (m % w)) N = sumTo (fun m => f (m / w) (m % w)) N + (v - f (n / w) (n % w)) := by
  induction N with
  | zero => omega
  | succ N ih =>
    rw [sumTo_succ, sumTo_succ]
    by_cases e : n = N
    · subst e
      have h0 : sumTo (fun m => u2 f (n / w) (n % w) v (m / w) (m % w)) n = sumTo (fun m => f (m / w) (m % w)) n := sumTo_congr fun k hk => by
        rw [u2_at, if_neg (fun g => div_mod_ne hk ⟨g.1.symm, g.2.symm⟩)]
      rw [h0, u2_at, if_pos ⟨rfl, rfl⟩]; omega
    · rw [ih (by omega), u2_at, if_neg (div_mod_ne (by omega))]; omega
end
structure Dry (s t : SheetM) : Prop where
  ok : t.Ok
  wet : wetOk t
  w : t.w = s.w
  h : t.h = s.h
  out : ∀ y < 8, ∀ x < 8, ¬ (x < s.w.toNat ∧ y < s.h.toNat) → t.wet y x = 0
theorem valid_dry {s : SheetM} (hs : s.Ok) (hv : validS s) : Dry s s := ⟨hs, valid_wet hv, rfl, rfl, fun y hy x hx hn => (valid_out hv hx hy hn).1⟩
section
variable {s t : SheetM} {b : Int} {n m N : Nat}
theorem Dry.small (h : Dry s t) (hm : small s) : small t := by
  have := h.w; have := h.h
  unfold Ink.small at *
  omega
theorem dyTo_ok (h : Dry s t) (hm : small s) (hb : 0 ≤ b) : ∀ n, n ≤ nCells t → Dry s (dyTo b t n).1 ∧ (0 ≤ (dyTo b t n).2 ∧ (dyTo b t n).2 ≤ 200 * (n : Int)) ∧ sumTo (fun m => (dyTo b t n).1.wet (m / t.w.toNat) (m % t.w.toNat)) (nCells t) + (dyTo b t n).2 = watT t := by
  intro n
  induction n with
  | zero => exact fun _ => ⟨h, ⟨Int.le_refl _, Int.le_refl _⟩, by rw [dyTo_zero]; exact Int.add_zero _⟩
  | succ n ih =>
    intro hn
    obtain ⟨i1, i2, i3⟩ := ih (by omega)
    have hw := h.w
    have hh := h.h
    have hms : t.w.toNat ≤ 8 ∧ t.h.toNat ≤ 8 := by unfold Ink.small at hm; omega
    have hc := cell_in (w := t.w.toNat) (h := t.h.toNat) (n := n) hn
    have hcb := i1.wet (n / t.w.toNat) (n % t.w.toNat) (by omega) (by omega)
    have hmb := minM_bd hb hcb
    rw [dyTo_succ]
    generalize dyTo b t n = st at *
    obtain ⟨u, c⟩ := st
    refine ⟨⟨⟨i1.ok.w, i1.ok.h, fun i j => ?_, i1.ok.dye, i1.ok.wax⟩, fun y x hy hx => ?_, i1.w, i1.h, fun y hy x hx hn => ?_⟩, ?_, ?_⟩
    · show -32768 ≤ u2 _ _ _ _ i j ∧ u2 _ _ _ _ i j < 32768
      rw [u2_at]
      split
      · omega
      · exact i1.ok.wet i j
    · show 0 ≤ u2 _ _ _ _ y x ∧ u2 _ _ _ _ y x ≤ 200
      rw [u2_at]
      split
      · omega
      · exact i1.wet y x hy hx
    · show u2 _ _ _ _ y x = 0
      rw [u2_at, if_neg]
      · exact i1.out y hy x hx hn
      · rintro ⟨rfl, rfl⟩
        exact hn ⟨by omega, by omega⟩
    · show 0 ≤ c + _ ∧ c + _ ≤ 200 * ((n + 1 : Nat) : Int)
      have i2' : 0 ≤ c ∧ c ≤ 200 * (n : Int) := i2
      dsimp only at hcb hmb ⊢
      omega
    · dsimp only at i3 hmb ⊢
      rw [sumTo_u2 (by omega)]
      omega
theorem wat_all (h : Dry s t) (hm : small s) : watT t = sumAll t.wet := sumCells_all (h.small hm) fun y hy x hx hn => h.out y hy x hx (by rw [h.w, h.h] at hn; exact hn)
theorem wat_nn (h : Dry s t) (hm : small s) : 0 ≤ watT t ∧ watT t ≤ 12800 := by
  have hw := h.w
  have hh := h.h
  have hms : t.w.toNat ≤ 8 ∧ t.h.toNat ≤ 8 := by unfold Ink.small at hm; omega
  have hwh : nCells t ≤ 8 * 8 := Nat.mul_le_mul hms.1 hms.2
  have := sumTo_le (f := fun m => t.wet (m / t.w.toNat) (m % t.w.toNat)) (n := nCells t) (a := 0) (b := 200) (fun m hm' => by
    have hc := cell_in (w := t.w.toNat) (h := t.h.toNat) (n := m) hm'
    exact h.wet _ _ (by omega) (by omega))
  unfold watT sumCells
  omega
end
/-! Stacks -/
def dOne (rate : Int) (j : Nat) (s : SheetM) : SheetM × Int := dyTo (rate.tdiv ((j : Int) + 1)) s (nCells s)
def dryL (rate : Int) (L : List SheetM) : Nat → List SheetM × Int
  | 0 => (L, 0)
  | i + 1 => ((dryL rate L i).1.set i (dOne rate i (L.getD i zeroSheet)).1, (dryL rate L i).2 + (dOne rate i (L.getD i zeroSheet)).2)
def watL (L : List SheetM) : Nat → Int
  | 0 => 0
  | i + 1 => watL L i + watT (L.getD i zeroSheet)
section
variable {L M : List SheetM} {rate : Int} {i j : Nat} {s : SheetM}
theorem getD_of (h : i < L.length) : L.getD i zeroSheet = L[i] := by rw [List.getD_eq_getElem?_getD, List.getElem?_eq_getElem h]; rfl
theorem dryL_zero : dryL rate L 0 = (L, 0) := rfl
theorem dryL_succ (h : i < L.length) : dryL rate L (i + 1) = ((dryL rate L i).1.set i (dOne rate i L[i]).1, (dryL rate L i).2 + (dOne rate i L[i]).2) := by rw [dryL, getD_of h]
theorem dryL_len : (dryL rate L i).1.length = L.length := by
  induction i with
  | zero => rfl
  | succ i ih => rw [dryL]; simpa using ih
theorem dryL_later (h : i ≤ j) : (dryL rate L i).1[j]? = L[j]? := by
  induction i with
  | zero => rfl
  | succ i ih =>
    rw [dryL]
    show (List.set _ _ _)[j]? = _
    rw [List.getElem?_set_ne (by omega)]
    exact ih (by omega)
theorem quo_nn (h : 0 ≤ rate) : 0 ≤ rate.tdiv ((j : Int) + 1) ∧ rate.tdiv ((j : Int) + 1) ≤ rate := by
  rw [Int.tdiv_eq_ediv_of_nonneg h]
  exact ⟨Int.ediv_nonneg h (by omega), Int.ediv_le_self _ h⟩
end
/-- What stays so, sheet by sheet. -/
structure DryL (L M : List SheetM) : Prop where
  len : M.length = L.length
  at_ : ∀ (i : Nat) (h : i < M.length) (h' : i < L.length), Dry L[i] M[i]
theorem stack_dry {L : List SheetM} (hs : ∀ s ∈ L, s.Ok) (h : stackP L) : DryL L L := ⟨rfl, fun i h1 h2 => valid_dry (hs _ (List.getElem_mem h2)) (h.2 _ (List.getElem_mem h2)).1⟩
theorem stack_small {L : List SheetM} (h : stackP L) {i : Nat} (hi : i < L.length) : small L[i] := valid_small (h.2 _ (List.getElem_mem hi)).1
section
variable {L M : List SheetM} {rate : Int} {i j : Nat} {s : SheetM}
theorem DryL.set (h : DryL L M) (hi : i < L.length) (hs : Dry L[i] s) : DryL L (M.set i s) := by
  refine ⟨by simpa using h.len, fun j h1 h2 => ?_⟩
  rw [List.getElem_set]
  split
  · rename_i e; subst e; exact hs
  · exact h.at_ j (by simpa using h1) h2
theorem dOne_ok {r : SheetM} (hm : small r) (h : Dry r s) (hr : 0 ≤ rate) : Dry r (dOne rate j s).1 ∧ (0 ≤ (dOne rate j s).2 ∧ (dOne rate j s).2 ≤ 12800) ∧ watT (dOne rate j s).1 + (dOne rate j s).2 = watT s := by
  have h1 := dyTo_ok (b := rate.tdiv ((j : Int) + 1)) h hm (quo_nn hr).1 (nCells s) (Nat.le_refl _)
  obtain ⟨e1, e2, _, _⟩ := dyTo_same (b := rate.tdiv ((j : Int) + 1)) (s := s) (n := nCells s)
  have hw := h.w
  have hh := h.h
  have hms : s.w.toNat ≤ 8 ∧ s.h.toNat ≤ 8 := by unfold Ink.small at hm; omega
  have hwh : nCells s ≤ 8 * 8 := Nat.mul_le_mul hms.1 hms.2
  refine ⟨h1.1, ⟨h1.2.1.1, ?_⟩, ?_⟩
  · have := h1.2.1.2
    unfold dOne
    omega
  · have := h1.2.2
    unfold dOne
    rw [← this]
    unfold watT sumCells nCells
    rw [e1, e2]
theorem watL_set (hi : i < M.length) : ∀ n, n ≤ M.length → watL (M.set i s) n = watL M n + (if i < n then watT s - watT M[i] else 0) := by
  intro n
  induction n with
  | zero => intro _; rfl
  | succ n ih =>
    intro hn
    rw [watL, watL, ih (by omega), getD_of (show n < (M.set i s).length by rw [List.length_set]; omega), getD_of (show n < M.length by omega), List.getElem_set]
    by_cases e : i = n
    · subst e; rw [if_pos rfl, if_neg (by omega), if_pos (by omega)]; omega
    · rw [if_neg e]
      by_cases h2 : i < n
      · rw [if_pos h2, if_pos (by omega)]; omega
      · rw [if_neg h2, if_neg (by omega)]; omega
theorem dryL_ok (hL : ∀ (i : Nat) (h : i < L.length), small L[i]) (h : DryL L M) (hr : 0 ≤ rate) : ∀ i, i ≤ M.length → DryL L (dryL rate M i).1 ∧ (0 ≤ (dryL rate M i).2 ∧ (dryL rate M i).2 ≤ 12800 * (i : Int)) ∧ watL (dryL rate M i).1 M.length + (dryL rate M i).2 = watL M M.length := by
  intro i
  induction i with
  | zero => exact fun _ => ⟨h, ⟨Int.le_refl _, Int.le_refl _⟩, by rw [dryL_zero]; exact Int.add_zero _⟩
  | succ i ih =>
    intro hi
    obtain ⟨i1, i2, i3⟩ := ih (by omega)
    have hil : i < L.length := by have := h.len; omega
    have ho := dOne_ok (j := i) (hL i hil) (h.at_ i hi hil) hr
    have hlen := dryL_len (rate := rate) (L := M) (i := i)
    have hlt := dryL_later (rate := rate) (L := M) (i := i) (j := i) (Nat.le_refl _)
    rw [List.getElem?_eq_getElem hi, List.getElem?_eq_getElem (show i < (dryL rate M i).1.length by omega)] at hlt
    have hlt' := Option.some.inj hlt
    rw [dryL_succ hi]
    refine ⟨i1.set hil ho.1, ?_, ?_⟩
    · dsimp only
      have := ho.2.1
      omega
    · dsimp only
      rw [watL_set (by omega) _ (by omega), if_pos (by omega), hlt']
      have := ho.2.2
      omega
theorem watL_bd (hL : ∀ (i : Nat) (h : i < L.length), small L[i]) (h : DryL L M) : ∀ n, n ≤ M.length → 0 ≤ watL M n ∧ watL M n ≤ 12800 * (n : Int) := by
  intro n
  induction n with
  | zero => exact fun _ => ⟨Int.le_refl _, Int.le_refl _⟩
  | succ n ih =>
    intro hn
    have h1 := ih (by omega)
    have hil : n < L.length := by have := h.len; omega
    have h2 := wat_nn (h.at_ n hn hil) (hL n hil)
    rw [watL, getD_of hn]
    omega
theorem watL_any (hL : ∀ (i : Nat) (h : i < L.length), small L[i]) (h : DryL L M) : (M.any fun s => decide (0 < watT s)) = decide (watL M M.length ≠ 0) := by
  have key : ∀ n, n ≤ M.length → (watL M n ≠ 0 ↔ ∃ j, ∃ h : j < M.length, j < n ∧ 0 < watT M[j]) := by
    intro n
    induction n with
    | zero => intro _; simp [watL]
    | succ n ih =>
      intro hn
      have hil : n < L.length := by have := h.len; omega
      have h1 := watL_bd hL h n (by omega)
      have h2 := wat_nn (h.at_ n hn hil) (hL n hil)
      have h3 := ih (by omega)
      rw [watL, getD_of hn]
      constructor
      · intro hne
        by_cases hz : watL M n = 0
        · exact ⟨n, hn, by omega, by omega⟩
        · obtain ⟨j, hj, h4, h5⟩ := h3.1 hz
          exact ⟨j, hj, by omega, h5⟩
      · rintro ⟨j, hj, h4, h5⟩
        by_cases e : j = n
        · subst e; omega
        · have := h3.2 ⟨j, hj, by omega, h5⟩
          omega
  rw [Bool.eq_iff_iff, List.any_eq_true, decide_eq_true_eq, key _ (Nat.le_refl _)]
  constructor
  · rintro ⟨s, hs, hw⟩
    obtain ⟨j, hj, rfl⟩ := List.getElem_of_mem hs
    exact ⟨j, hj, hj, of_decide_eq_true hw⟩
  · rintro ⟨j, hj, _, hw⟩
    exact ⟨_, List.getElem_mem hj, decide_eq_true hw⟩
end
def dIt (rate : Int) (L : List SheetM) : Nat → List SheetM
  | 0 => L
  | k + 1 => (dryL rate (dIt rate L k) L.length).1
def dGone (rate : Int) (L : List SheetM) (k : Nat) : Int := (dryL rate (dIt rate L k) L.length).2
def dStop (rate : Int) (L : List SheetM) (k : Nat) : Bool := decide (watL (dIt rate L k) L.length = 0) || decide (dGone rate L k = 0)
def dtK (rate : Int) (L : List SheetM) : Nat := (List.range 76801).findIdx (dStop rate L)
noncomputable def dtC (rate : Int) (L : List SheetM) : Int := stC L (decide (1 ≤ rate ∧ rate ≤ 200))
noncomputable def dtV (rate : Int) (L : List SheetM) : AV :=
  .tup [.int .i64 (if dtC rate L = 0 ∧ watL (dIt rate L (dtK rate L)) L.length = 0 then (dtK rate L : Int) else 0), .int .i64 (if dtC rate L = 0 then (if watL (dIt rate L (dtK rate L)) L.length = 0 then 0 else 6) else dtC rate L)]
section
variable {L : List SheetM} {rate c : Int} {k : Nat}
theorem dIt_zero : dIt rate L 0 = L := rfl
theorem dIt_succ : dIt rate L (k + 1) = (dryL rate (dIt rate L k) L.length).1 := rfl
theorem dIt_len : (dIt rate L k).length = L.length := by
  induction k with
  | zero => rfl
  | succ k ih => rw [dIt_succ, dryL_len, ih]
theorem dIt_ok (hs : ∀ s ∈ L, s.Ok) (h : stackP L) (hr : 0 ≤ rate) : DryL L (dIt rate L k) := by
  induction k with
  | zero => exact stack_dry hs h
  | succ k ih =>
    rw [dIt_succ]
    exact (dryL_ok (fun i hi => stack_small h hi) ih hr L.length (by rw [dIt_len]; exact Nat.le_refl _)).1
theorem dIt_bd (hs : ∀ s ∈ L, s.Ok) (h : stackP L) (hr : 0 ≤ rate) (hj : ∀ j < k, dStop rate L j = false) : watL (dIt rate L k) L.length + (k : Int) ≤ 76800 := by
  induction k with
  | zero =>
    have := watL_bd (fun i hi => stack_small h hi) (stack_dry hs h) L.length (Nat.le_refl _)
    have h6 := h.1
    rw [dIt_zero]
    omega
  | succ k ih =>
    have h1 := ih fun j hj' => hj j (by omega)
    have h2 := dryL_ok (fun i hi => stack_small h hi) (dIt_ok (k := k) hs h hr) hr L.length (by rw [dIt_len]; exact Nat.le_refl _)
    have h3 := hj k (by omega)
    unfold dStop dGone at h3
    rw [Bool.or_eq_false_iff] at h3
    have h4 := of_decide_eq_false h3.2
    rw [dIt_len] at h2
    rw [dIt_succ]
    omega
theorem dtK_eq (hs : ∀ s ∈ L, s.Ok) (h : stackP L) (hr : 0 ≤ rate) (hj : ∀ j < k, dStop rate L j = false) (hk : dStop rate L k = true) : dtK rate L = k := by
  have hb := dIt_bd hs h hr hj
  have hn := watL_bd (fun i hi => stack_small h hi) (dIt_ok (k := k) hs h hr) L.length (by rw [dIt_len]; exact Nat.le_refl _)
  unfold dtK
  rw [List.findIdx_eq (by simp; omega)]
  refine ⟨by simpa using hk, fun j hj' => ?_⟩
  have := hj j hj'
  simpa using this
theorem dtV_ok (e : dtC rate L = 0) (hk : dtK rate L = k) (hw : watL (dIt rate L k) L.length = 0) : dtV rate L = .tup [.int .i64 (k : Int), .int .i64 0] := by
  unfold dtV; rw [hk, if_pos ⟨e, hw⟩, if_pos e, if_pos hw]
theorem dtV_none (e : dtC rate L = 0) (hk : dtK rate L = k) (hw : ¬ watL (dIt rate L k) L.length = 0) : dtV rate L = .tup [.int .i64 0, .int .i64 6] := by
  unfold dtV; rw [hk, if_neg (fun g => hw g.2), if_pos e, if_neg hw]
theorem dtV_no (e : dtC rate L = c) (hc : c ≠ 0) : dtV rate L = .tup [.int .i64 0, .int .i64 c] := by
  unfold dtV; rw [e, if_neg (fun g => hc g.1), if_neg hc]
theorem set_map {X : List SheetM} {i : Nat} {u u' : SheetM} : ((X.set i u).map sheetD).set i (sheetD u') = (X.set i u').map sheetD := by rw [← List.map_set, List.set_set]
theorem setEl_get {X : List SheetM} {i : Nat} {u : SheetM} (h : i < X.length) : ((X.set i u).map sheetD)[i]? = some (sheetD u) := by
  rw [List.getElem?_map, List.getElem?_set_self h]; rfl
theorem set_same_el {X : List SheetM} {i : Nat} {u : SheetM} (h : X[i]? = some u) : X.set i u = X := by
  apply List.ext_getElem?
  intro j
  by_cases e : i = j
  · subst e
    rw [List.getElem?_set_self (List.getElem?_eq_some_iff.1 h).1, h]
  · rw [List.getElem?_set_ne e]
end
end Ink
