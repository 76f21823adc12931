/- Contracts of functions of the program, by the texts that it imports. No conditions. -/
import Derived.Test.YtkabilbdppmajaaInkGi
import Derived.Test.YtkabilbdppmajaaInkGg
set_option linter.unusedVariables false
set_option linter.unusedSimpArgs false
/- Writers of two blocks that look at a third one; what the program means: the least share. No conditions. -/
namespace Ink
open Go
section
variable {s : SheetM} {b : BrushM} {N : List SpotM} {least : Int} {k : Nat}
end
end Ink
/- What the program means: rinsing till a sheet is light. No conditions. -/
namespace Ink
open Go
section
variable {s : SheetM} {share : Int} {st : RinM} {x y k : Nat}
end
section
variable {s : SheetM} {share level c : Int} {i : Nat}
end
end Ink
/- What the program means: pressing a fold. No conditions. -/
namespace Ink
open Go
set_option linter.unusedVariables false
theorem u2_comm {α : Type} {f : Nat → Nat → α} {a b a' b' : Nat} {v w : α} (h : ¬ (a = a' ∧ b = b')) : u2 (u2 f a b v) a' b' w = u2 (u2 f a' b' w) a b v := by
  funext i j
  rw [u2_at, u2_at, u2_at, u2_at]
  by_cases h1 : i = a ∧ j = b
  · by_cases h2 : i = a' ∧ j = b'
    · exact absurd ⟨h1.1.symm.trans h2.1, h1.2.symm.trans h2.2⟩ h
    · rw [if_neg h2, if_pos h1, if_pos h1]
  · by_cases h2 : i = a' ∧ j = b'
    · obtain ⟨rfl, rfl⟩ := h2
      simp only [h1, and_self, if_true, if_false]
    · simp only [h1, h2, if_false]
theorem u3_self {α : Type} {f : Nat → Nat → Nat → α} {a b c : Nat} : u3 f a b c (f a b c) = f := by
  funext i j k
  rw [u3_at]
  split
  · rename_i h; obtain ⟨rfl, rfl, rfl⟩ := h; rfl
  · rfl
def goes (a b w : Int) : Int := if b < a then ((a - b) * w).tdiv 16 else -(((b - a) * w).tdiv 16)
theorem mul_bd {d w : Int} (hd : 0 ≤ d) (hw : 1 ≤ w ∧ w ≤ 8) : 0 ≤ d * w ∧ d * w ≤ d * 8 := ⟨Int.mul_nonneg hd (by omega), Int.mul_le_mul_of_nonneg_left hw.2 hd⟩
theorem part_bd {d w : Int} (hd : 0 ≤ d) (hw : 1 ≤ w ∧ w ≤ 8) : 0 ≤ (d * w).tdiv 16 ∧ (d * w).tdiv 16 ≤ d := by
  have := mul_bd hd hw
  rw [Int.tdiv_eq_ediv_of_nonneg (by omega)]
  omega
theorem goes_pos {a b w : Int} (h : b < a) (hw : 1 ≤ w ∧ w ≤ 8) : goes a b w = ((a - b) * w).tdiv 16 ∧ 0 ≤ goes a b w ∧ goes a b w ≤ a - b := by
  have := part_bd (d := a - b) (by omega) hw
  unfold goes; rw [if_pos h]; exact ⟨rfl, this⟩
theorem goes_neg {a b w : Int} (h : ¬ b < a) (hw : 1 ≤ w ∧ w ≤ 8) : goes a b w = -(((b - a) * w).tdiv 16) ∧ goes a b w ≤ 0 ∧ a - b ≤ goes a b w := by
  have := part_bd (d := b - a) (by omega) hw
  unfold goes; rw [if_neg h]; exact ⟨rfl, by omega, by omega⟩
theorem goes_bd {a b w c : Int} (hw : 1 ≤ w ∧ w ≤ 8) (ha : 0 ≤ a ∧ a ≤ c) (hb : 0 ≤ b ∧ b ≤ c) : (0 ≤ a - goes a b w ∧ a - goes a b w ≤ c) ∧ (0 ≤ b + goes a b w ∧ b + goes a b w ≤ c) ∧ -c ≤ goes a b w ∧ goes a b w ≤ c := by
  by_cases h : b < a
  · have := goes_pos h hw; omega
  · have := goes_neg h hw; omega
abbrev PrsM := SheetM × Int
noncomputable def prsD (s : SheetM) (p : PairM) (k : Nat) (w : Int) : Int :=
  if (0 < goes (s.dye p.ay.toNat p.ax.toNat k) (s.dye p.by'.toNat p.bx.toNat k) w ∧ s.wet p.ay.toNat p.ax.toNat = 0) ∨ (goes (s.dye p.ay.toNat p.ax.toNat k) (s.dye p.by'.toNat p.bx.toNat k) w < 0 ∧ s.wet p.by'.toNat p.bx.toNat = 0) then 0
  else goes (s.dye p.ay.toNat p.ax.toNat k) (s.dye p.by'.toNat p.bx.toNat k) w
def moveD (s : SheetM) (p : PairM) (k : Nat) (d : Int) : SheetM :=
  { s with dye := u3 (u3 s.dye p.ay.toNat p.ax.toNat k (s.dye p.ay.toNat p.ax.toNat k - d)) p.by'.toNat p.bx.toNat k (s.dye p.by'.toNat p.bx.toNat k + d) }
def moveW (s : SheetM) (p : PairM) (d : Int) : SheetM :=
  { s with wet := u2 (u2 s.wet p.ay.toNat p.ax.toNat (s.wet p.ay.toNat p.ax.toNat - d)) p.by'.toNat p.bx.toNat (s.wet p.by'.toNat p.bx.toNat + d) }
noncomputable def prs1 (w : Int) (st : PrsM) (p : PairM) (k : Nat) : PrsM := (moveD st.1 p k (prsD st.1 p k w), st.2 + sizeM (prsD st.1 p k w))
noncomputable def prsW (w : Int) (st : PrsM) (p : PairM) : PrsM := (moveW st.1 p (goes (st.1.wet p.ay.toNat p.ax.toNat) (st.1.wet p.by'.toNat p.bx.toNat) w), st.2)
noncomputable def prsInk (w : Int) (st : PrsM) (p : PairM) : Nat → PrsM
  | 0 => st
  | k + 1 => prs1 w (prsInk w st p k) p k
noncomputable def prsTo (w : Int) (s : SheetM) (l : List PairM) : Nat → PrsM
  | 0 => (s, 0)
  | i + 1 => match l[i]? with | some p => prsW w (prsInk w (prsTo w s l i) p 3) p | none => prsTo w s l i
theorem prsInk_zero {w st p} : prsInk w st p 0 = st := rfl
theorem prsInk_succ {w st p} {k : Nat} : prsInk w st p (k + 1) = prs1 w (prsInk w st p k) p k := rfl
theorem prsTo_zero {w s l} : prsTo w s l 0 = (s, 0) := rfl
theorem prsTo_succ {w : Int} {s : SheetM} {l : List PairM} {i : Nat} {p : PairM} (h : l[i]? = some p) : prsTo w s l (i + 1) = prsW w (prsInk w (prsTo w s l i) p 3) p := by rw [prsTo, h]
structure Prs (s t : SheetM) : Prop where
  ok : t.Ok
  dye : dyeOk t
  wet : wetOk t
  w : t.w = s.w
  h : t.h = s.h
theorem Prs.small {s t : SheetM} (h : Prs s t) (hm : small s) : small t := by
  have := h.w; have := h.h
  unfold Ink.small at *
  omega
section
variable {s t : SheetM} {p : PairM} {k : Nat} {w d : Int}
theorem prsD_bd (h : Prs s t) (h8 : in8 p.ax p.ay) (g8 : in8 p.bx p.by') (hk : k < 3) (hw : 1 ≤ w ∧ w ≤ 8) :
    (0 ≤ t.dye p.ay.toNat p.ax.toNat k - prsD t p k w ∧ t.dye p.ay.toNat p.ax.toNat k - prsD t p k w ≤ 1000) ∧ (0 ≤ t.dye p.by'.toNat p.bx.toNat k + prsD t p k w ∧ t.dye p.by'.toNat p.bx.toNat k + prsD t p k w ≤ 1000) ∧ -1000 ≤ prsD t p k w ∧ prsD t p k w ≤ 1000 := by
  have h1 := h.dye p.ay.toNat p.ax.toNat k (by omega) (by omega) hk
  have h2 := h.dye p.by'.toNat p.bx.toNat k (by omega) (by omega) hk
  have h3 := goes_bd hw h1 h2
  unfold prsD
  split
  · omega
  · omega
theorem moveD_ok (h : Prs s t) (h8 : in8 p.ax p.ay) (g8 : in8 p.bx p.by') (hk : k < 3)
    (hd : (0 ≤ t.dye p.ay.toNat p.ax.toNat k - d ∧ t.dye p.ay.toNat p.ax.toNat k - d ≤ 1000) ∧ (0 ≤ t.dye p.by'.toNat p.bx.toNat k + d ∧ t.dye p.by'.toNat p.bx.toNat k + d ≤ 1000)) : Prs s (moveD t p k d) := by
  refine ⟨⟨h.ok.w, h.ok.h, h.ok.wet, fun i j q => ?_, h.ok.wax⟩, fun y x q hy hx hq => ?_, h.wet, h.w, h.h⟩
  · show -32768 ≤ u3 _ _ _ _ _ i j q ∧ u3 _ _ _ _ _ i j q < 32768
    rw [u3_at, u3_at]
    split
    · omega
    · split
      · omega
      · exact h.ok.dye i j q
  · show 0 ≤ u3 _ _ _ _ _ y x q ∧ u3 _ _ _ _ _ y x q ≤ 1000
    rw [u3_at, u3_at]
    split
    · omega
    · split
      · omega
      · exact h.dye y x q hy hx hq
theorem moveW_ok (h : Prs s t) (h8 : in8 p.ax p.ay) (g8 : in8 p.bx p.by')
    (hd : (0 ≤ t.wet p.ay.toNat p.ax.toNat - d ∧ t.wet p.ay.toNat p.ax.toNat - d ≤ 200) ∧ (0 ≤ t.wet p.by'.toNat p.bx.toNat + d ∧ t.wet p.by'.toNat p.bx.toNat + d ≤ 200)) : Prs s (moveW t p d) := by
  refine ⟨⟨h.ok.w, h.ok.h, fun i j => ?_, h.ok.dye, h.ok.wax⟩, h.dye, fun y x hy hx => ?_, h.w, h.h⟩
  · show -32768 ≤ u2 _ _ _ _ i j ∧ u2 _ _ _ _ i j < 32768
    rw [u2_at, u2_at]
    split
    · omega
    · split
      · omega
      · exact h.ok.wet i j
  · show 0 ≤ u2 _ _ _ _ y x ∧ u2 _ _ _ _ y x ≤ 200
    rw [u2_at, u2_at]
    split
    · omega
    · split
      · omega
      · exact h.wet y x hy hx
theorem size_bd {d c : Int} (h : -c ≤ d ∧ d ≤ c) : 0 ≤ sizeM d ∧ sizeM d ≤ c := by unfold sizeM maxM; split <;> omega
end
structure PrsOk (s : SheetM) (c : Int) (st : PrsM) : Prop where
  ok : Prs s st.1
  n : 0 ≤ st.2 ∧ st.2 ≤ c
section
variable {s : SheetM} {p : PairM} {k : Nat} {w c : Int} {st : PrsM}
theorem prs1_ok (h : PrsOk s c st) (h8 : in8 p.ax p.ay) (g8 : in8 p.bx p.by') (hk : k < 3) (hw : 1 ≤ w ∧ w ≤ 8) : PrsOk s (c + 1000) (prs1 w st p k) := by
  have hb := prsD_bd h.ok h8 g8 hk hw
  have hn := h.n
  have hz := size_bd hb.2.2
  exact ⟨moveD_ok h.ok h8 g8 hk ⟨hb.1, hb.2.1⟩, by show 0 ≤ st.2 + _ ∧ st.2 + _ ≤ _; omega⟩
theorem prsInk_ok (h : PrsOk s c st) (h8 : in8 p.ax p.ay) (g8 : in8 p.bx p.by') (hw : 1 ≤ w ∧ w ≤ 8) : ∀ k : Nat, k ≤ 3 → PrsOk s (c + 1000 * (k : Int)) (prsInk w st p k) := by
  intro k
  induction k with
  | zero => intro _; rw [prsInk_zero]; simpa using h
  | succ k ih =>
    intro hk
    have := prs1_ok (ih (by omega)) h8 g8 (k := k) (by omega) hw
    rw [prsInk_succ]
    have e : c + 1000 * ((k + 1 : Nat) : Int) = c + 1000 * (k : Int) + 1000 := by omega
    rw [e]; exact this
theorem prsW_bd (h : Prs s st.1) (h8 : in8 p.ax p.ay) (g8 : in8 p.bx p.by') (hw : 1 ≤ w ∧ w ≤ 8) : (0 ≤ st.1.wet p.ay.toNat p.ax.toNat - goes (st.1.wet p.ay.toNat p.ax.toNat) (st.1.wet p.by'.toNat p.bx.toNat) w ∧ st.1.wet p.ay.toNat p.ax.toNat - goes (st.1.wet p.ay.toNat p.ax.toNat) (st.1.wet p.by'.toNat p.bx.toNat) w ≤ 200) ∧ (0 ≤ st.1.wet p.by'.toNat p.bx.toNat + goes (st.1.wet p.ay.toNat p.ax.toNat) (st.1.wet p.by'.toNat p.bx.toNat) w ∧ st.1.wet p.by'.toNat p.bx.toNat + goes (st.1.wet p.ay.toNat p.ax.toNat) (st.1.wet p.by'.toNat p.bx.toNat) w ≤ 200) ∧ -200 ≤ goes (st.1.wet p.ay.toNat p.ax.toNat) (st.1.wet p.by'.toNat p.bx.toNat) w ∧ goes (st.1.wet p.ay.toNat p.ax.toNat) (st.1.wet p.by'.toNat p.bx.toNat) w ≤ 200 := goes_bd hw (h.wet p.ay.toNat p.ax.toNat (by omega) (by omega)) (h.wet p.by'.toNat p.bx.toNat (by omega) (by omega))
theorem prsW_ok (h : PrsOk s c st) (h8 : in8 p.ax p.ay) (g8 : in8 p.bx p.by') (hw : 1 ≤ w ∧ w ≤ 8) : PrsOk s c (prsW w st p) := by
  have hb := prsW_bd h.ok h8 g8 hw
  exact ⟨moveW_ok h.ok h8 g8 ⟨hb.1, hb.2.1⟩, h.n⟩
end
theorem prsTo_ok {s t : SheetM} {f : FoldM} {w : Int} (h : Prs s t) (hm : small s) (hw : 1 ≤ w ∧ w ≤ 8) : ∀ i, i ≤ (pairsM t f).length → PrsOk s (3000 * (i : Int)) (prsTo w t (pairsM t f) i) := by
  intro i
  induction i with
  | zero => exact fun _ => ⟨h, by rw [prsTo_zero]; exact ⟨Int.le_refl _, by simp⟩⟩
  | succ i ih =>
    intro hi
    obtain ⟨p, hp, _, h8, g8⟩ := zl3 (s := t) (f := f) (h.small hm) (i := i) (by omega)
    rw [prsTo_succ hp]
    have := prsW_ok (prsInk_ok (ih (by omega)) h8 g8 hw 3 (by omega)) h8 g8 hw
    have e : (3000 : Int) * ((i + 1 : Nat) : Int) = 3000 * (i : Int) + 1000 * ((3 : Nat) : Int) := by omega
    rw [e]; exact this
noncomputable def pressM (s : SheetM) (f : FoldM) : PrsM := prsTo f.press s (pairsM s f) (pairsM s f).length
noncomputable def puIt (s : SheetM) (f : FoldM) : Nat → SheetM
  | 0 => s
  | n + 1 => (pressM (puIt s f n) f).1
theorem puIt_zero {s f} : puIt s f 0 = s := rfl
theorem puIt_succ {s f} {n : Nat} : puIt s f (n + 1) = (pressM (puIt s f n) f).1 := rfl
theorem pressM_ok {s t : SheetM} {f : FoldM} (h : Prs s t) (hm : small s) (hw : 1 ≤ f.press ∧ f.press ≤ 8) : Prs s (pressM t f).1 := (prsTo_ok (f := f) h hm hw _ (Nat.le_refl _)).ok
theorem puIt_ok {s : SheetM} {f : FoldM} (h : Prs s s) (hm : small s) (hw : 1 ≤ f.press ∧ f.press ≤ 8) {n : Nat} : Prs s (puIt s f n) := by
  induction n with
  | zero => exact h
  | succ n ih => rw [puIt_succ]; exact pressM_ok ih hm hw
theorem valid_prs {s : SheetM} (hs : s.Ok) (hv : validS s) : Prs s s := ⟨hs, valid_dye hv, valid_wet hv, rfl, rfl⟩
noncomputable def puB (s : SheetM) (f : FoldM) (most : Int) (n : Nat) : Bool := decide (offM (puIt s f n) f ≤ most)
noncomputable def puK (s : SheetM) (f : FoldM) (most : Int) : Nat := (List.range 31).findIdx (puB s f most)
noncomputable def puC (s : SheetM) (f : FoldM) (most : Int) : Int := askF s f (decide (0 ≤ most))
noncomputable def puV (s : SheetM) (f : FoldM) (most : Int) : AV :=
  .tup [.int .i64 (if puC s f most = 0 ∧ puK s f most < 31 then (puK s f most : Int) else 0), .int .i64 (if puC s f most = 0 then (if puK s f most < 31 then 0 else 6) else puC s f most)]
section
variable {s : SheetM} {f : FoldM} {most c : Int} {k : Nat}
theorem puK_le : puK s f most ≤ 31 := by
  have := List.findIdx_le_length (p := puB s f most) (xs := List.range 31)
  simpa [puK] using this
theorem puK_hit (hk : k ≤ puK s f most) (h31 : k < 31) (h : offM (puIt s f k) f ≤ most) : puK s f most = k := by
  apply Classical.byContradiction
  intro hne
  have hlt : k < puK s f most := by omega
  have := List.not_of_lt_findIdx (p := puB s f most) (xs := List.range 31) hlt
  rw [List.getElem_range] at this
  have h2 : puB s f most k = true := decide_eq_true h
  rw [h2] at this
  cases this
theorem puK_miss (hk : k ≤ puK s f most) (h31 : k < 31) (h : ¬ offM (puIt s f k) f ≤ most) : k + 1 ≤ puK s f most := by
  apply Classical.byContradiction
  intro hne
  have he : puK s f most = k := by omega
  have hl : (List.range 31).findIdx (puB s f most) < (List.range 31).length := by
    show puK s f most < _; simp; omega
  have := List.findIdx_getElem (w := hl)
  rw [List.getElem_range] at this
  have h2 : puB s f most (puK s f most) = true := this
  rw [he] at h2
  exact h (of_decide_eq_true h2)
theorem puV_ok (h : puC s f most = 0) (hk : puK s f most = k) (h31 : k < 31) : puV s f most = .tup [.int .i64 (k : Int), .int .i64 0] := by
  unfold puV; rw [if_pos ⟨h, by omega⟩, if_pos h, if_pos (by omega), hk]
theorem puV_none (h : puC s f most = 0) (hk : ¬ puK s f most < 31) : puV s f most = .tup [.int .i64 0, .int .i64 6] := by
  unfold puV; rw [if_neg (fun g => hk g.2), if_pos h, if_neg hk]
theorem puV_ne (h : puC s f most = c) (hc : c ≠ 0) : puV s f most = .tup [.int .i64 0, .int .i64 c] := by
  unfold puV; rw [h, if_neg (fun g => hc g.1), if_neg hc]
end
end Ink
/- What one passing over reads and writes. No conditions. -/
namespace Ink
open Go
set_option linter.unusedVariables false
theorem go_by {x y w : Int} (hyx : y ≤ x) (hy : 0 ≤ y) (hx : x ≤ 1000) (hw : 1 ≤ w ∧ w ≤ 8) :
    IntKind.i16.wrap (IntKind.i64.wrap ((IntKind.i64.wrap (IntKind.i64.wrap (IntKind.i16.wrap (x - y)) * IntKind.i64.wrap w)).tdiv 16)) = ((x - y) * w).tdiv 16 := by
  have h1 := part_bd (d := x - y) (by omega) hw
  have h2 := mul_bd (d := x - y) (by omega) hw
  rw [wrap_i16 (a := x - y) (by omega) (by omega), wrap_i64 (a := x - y) (by omega) (by omega), wrap_i64 (a := w) (by omega) (by omega), wrap_i64 (a := (x - y) * w) (by omega) (by omega)]
  rw [wrap_i64 (a := ((x - y) * w).tdiv 16) (by omega) (by omega), wrap_i16 (by omega) (by omega)]
theorem size_nn {d : Int} (h : 0 ≤ d) : sizeM d = d := by unfold sizeM maxM; split <;> omega
theorem size_np {d : Int} (h : 0 ≤ d) : sizeM (-d) = d := by unfold sizeM maxM; split <;> omega
section
variable {t : SheetM} {p : PairM} {k : Nat} {w d : Int}
theorem prsD_one (h : t.dye p.by'.toNat p.bx.toNat k < t.dye p.ay.toNat p.ax.toNat k) (hw : 1 ≤ w ∧ w ≤ 8) (ho : t.wet p.ay.toNat p.ax.toNat ≠ 0) : prsD t p k w = ((t.dye p.ay.toNat p.ax.toNat k - t.dye p.by'.toNat p.bx.toNat k) * w).tdiv 16 := by
  have hg : 0 ≤ goes (t.dye p.ay.toNat p.ax.toNat k) (t.dye p.by'.toNat p.bx.toNat k) w := (goes_pos h hw).2.1
  unfold prsD
  rw [if_neg (by rintro (⟨_, h2⟩ | ⟨h1, _⟩); exact ho h2; omega)]
  exact (goes_pos h hw).1
theorem prsD_one0 (h : t.dye p.by'.toNat p.bx.toNat k < t.dye p.ay.toNat p.ax.toNat k) (hw : 1 ≤ w ∧ w ≤ 8) (ho : t.wet p.ay.toNat p.ax.toNat = 0) : prsD t p k w = 0 := by
  have hg : 0 ≤ goes (t.dye p.ay.toNat p.ax.toNat k) (t.dye p.by'.toNat p.bx.toNat k) w := (goes_pos h hw).2.1
  unfold prsD
  split
  · rfl
  · rename_i hn
    by_cases h0 : 0 < goes (t.dye p.ay.toNat p.ax.toNat k) (t.dye p.by'.toNat p.bx.toNat k) w
    · exact absurd (Or.inl ⟨h0, ho⟩) hn
    · omega
theorem prsD_two (h : ¬ t.dye p.by'.toNat p.bx.toNat k < t.dye p.ay.toNat p.ax.toNat k) (hw : 1 ≤ w ∧ w ≤ 8) (ho : t.wet p.by'.toNat p.bx.toNat ≠ 0) : prsD t p k w = -(((t.dye p.by'.toNat p.bx.toNat k - t.dye p.ay.toNat p.ax.toNat k) * w).tdiv 16) := by
  have hg : goes (t.dye p.ay.toNat p.ax.toNat k) (t.dye p.by'.toNat p.bx.toNat k) w ≤ 0 := (goes_neg h hw).2.1
  unfold prsD
  rw [if_neg (by rintro (⟨h1, _⟩ | ⟨_, h2⟩); omega; exact ho h2)]
  exact (goes_neg h hw).1
theorem prsD_two0 (h : ¬ t.dye p.by'.toNat p.bx.toNat k < t.dye p.ay.toNat p.ax.toNat k) (hw : 1 ≤ w ∧ w ≤ 8) (ho : t.wet p.by'.toNat p.bx.toNat = 0) : prsD t p k w = 0 := by
  have hg : goes (t.dye p.ay.toNat p.ax.toNat k) (t.dye p.by'.toNat p.bx.toNat k) w ≤ 0 := (goes_neg h hw).2.1
  unfold prsD
  split
  · rfl
  · rename_i hn
    by_cases h0 : goes (t.dye p.ay.toNat p.ax.toNat k) (t.dye p.by'.toNat p.bx.toNat k) w < 0
    · exact absurd (Or.inr ⟨h0, ho⟩) hn
    · omega
theorem moveD_zero : moveD t p k 0 = t := by
  unfold moveD
  rw [Int.sub_zero, Int.add_zero, u3_self, u3_self]
theorem moveD_eq : moveD t p k d = { w := t.w, h := t.h, wet := t.wet, dye := u3 (u3 t.dye p.ay.toNat p.ax.toNat k (t.dye p.ay.toNat p.ax.toNat k - d)) p.by'.toNat p.bx.toNat k (t.dye p.by'.toNat p.bx.toNat k + d), wax := t.wax } := rfl
theorem moveD_swap (hne : ¬ (p.ax = p.bx ∧ p.ay = p.by')) (h8 : in8 p.ax p.ay) (g8 : in8 p.bx p.by') : moveD t p k (-d) = { w := t.w, h := t.h, wet := t.wet, dye := u3 (u3 t.dye p.by'.toNat p.bx.toNat k (t.dye p.by'.toNat p.bx.toNat k - d)) p.ay.toNat p.ax.toNat k (t.dye p.ay.toNat p.ax.toNat k + d), wax := t.wax } := by
  rw [moveD_eq, u3_comm (fun h => hne ⟨by omega, by omega⟩), Int.sub_neg, ← Int.sub_eq_add_neg]
theorem moveW_eq : moveW t p d = { w := t.w, h := t.h, wet := u2 (u2 t.wet p.ay.toNat p.ax.toNat (t.wet p.ay.toNat p.ax.toNat - d)) p.by'.toNat p.bx.toNat (t.wet p.by'.toNat p.bx.toNat + d), dye := t.dye, wax := t.wax } := rfl
theorem moveW_swap (hne : ¬ (p.ax = p.bx ∧ p.ay = p.by')) (h8 : in8 p.ax p.ay) (g8 : in8 p.bx p.by') : moveW t p (-d) = { w := t.w, h := t.h, wet := u2 (u2 t.wet p.by'.toNat p.bx.toNat (t.wet p.by'.toNat p.bx.toNat - d)) p.ay.toNat p.ax.toNat (t.wet p.ay.toNat p.ax.toNat + d), dye := t.dye, wax := t.wax } := by
  rw [moveW_eq, u2_comm (fun h => hne ⟨by omega, by omega⟩), Int.sub_neg, ← Int.sub_eq_add_neg]
theorem u3_AB (hne : ¬ (p.ax = p.bx ∧ p.ay = p.by')) (h8 : in8 p.ax p.ay) (g8 : in8 p.bx p.by') {v : Int} {f : Nat → Nat → Nat → Int} : u3 f p.ay.toNat p.ax.toNat k v p.by'.toNat p.bx.toNat k = f p.by'.toNat p.bx.toNat k := by rw [u3_at, if_neg (fun h => hne ⟨by omega, by omega⟩)]
theorem u3_BA (hne : ¬ (p.ax = p.bx ∧ p.ay = p.by')) (h8 : in8 p.ax p.ay) (g8 : in8 p.bx p.by') {v : Int} {f : Nat → Nat → Nat → Int} : u3 f p.by'.toNat p.bx.toNat k v p.ay.toNat p.ax.toNat k = f p.ay.toNat p.ax.toNat k := by rw [u3_at, if_neg (fun h => hne ⟨by omega, by omega⟩)]
theorem u2_AB (hne : ¬ (p.ax = p.bx ∧ p.ay = p.by')) (h8 : in8 p.ax p.ay) (g8 : in8 p.bx p.by') {v : Int} {f : Nat → Nat → Int} : u2 f p.ay.toNat p.ax.toNat v p.by'.toNat p.bx.toNat = f p.by'.toNat p.bx.toNat := by rw [u2_at, if_neg (fun h => hne ⟨by omega, by omega⟩)]
theorem u2_BA (hne : ¬ (p.ax = p.bx ∧ p.ay = p.by')) (h8 : in8 p.ax p.ay) (g8 : in8 p.bx p.by') {v : Int} {f : Nat → Nat → Int} : u2 f p.by'.toNat p.bx.toNat v p.ay.toNat p.ax.toNat = f p.ay.toNat p.ax.toNat := by rw [u2_at, if_neg (fun h => hne ⟨by omega, by omega⟩)]
end
end Ink
