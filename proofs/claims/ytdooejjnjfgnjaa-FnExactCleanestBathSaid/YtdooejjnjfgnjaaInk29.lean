/- What the program means: brushes. No conditions. -/
import Derived.Test.YtdooejjnjfgnjaaInk28
set_option linter.unusedVariables false
set_option linter.unusedSimpArgs false
namespace Ink
open Go
def brushP (b : BrushM) : Prop := (∀ k < 3, 0 ≤ b.dye k ∧ b.dye k ≤ 900) ∧ b.dye 0 + b.dye 1 + b.dye 2 ≤ 900 ∧ (0 ≤ b.water ∧ b.water ≤ 200) ∧ 1 ≤ b.share ∧ b.share ≤ 16
noncomputable instance {b} : Decidable (brushP b) := Classical.propDecidable _
noncomputable def askB (s : SheetM) (b : BrushM) (x y : Int) : Int := if brushP b then askM s x y true else 1
theorem askB_cases (s : SheetM) (b : BrushM) (x y : Int) : (askB s b x y = 0 ∧ validS s ∧ brushP b ∧ hasP s x y) ∨ askB s b x y = 1 ∨ askB s b x y = 2 := by
  unfold askB
  by_cases hb : brushP b
  · rw [if_pos hb]
    rcases askM_cases s x y true with ⟨h1, h2, h3, _⟩ | h | h
    · exact .inl ⟨h1, h2, hb, h3⟩
    · exact .inr (.inl h)
    · exact .inr (.inr h)
  · rw [if_neg hb]; exact .inr (.inl rfl)
def minM (a b : Int) : Int := if a < b then a else b
theorem mm_min {a b : Int} : mm false a b = minM a b := by
  unfold mm minM
  simp only [Bool.false_eq_true, if_false]
  split <;> split <;> omega
def partB (n share : Int) : Int := (n * share + 15).tdiv 16
theorem partB_mul {n share : Int} (hn : 0 ≤ n ∧ n ≤ 1000) (hs : 1 ≤ share ∧ share ≤ 16) : 0 ≤ n * share ∧ n * share ≤ n * 16 := by
  exact ⟨Int.mul_nonneg hn.1 (by omega), Int.mul_le_mul_of_nonneg_left hs.2 hn.1⟩
theorem partB_bd {n share : Int} (hn : 0 ≤ n ∧ n ≤ 1000) (hs : 1 ≤ share ∧ share ≤ 16) : 0 ≤ partB n share ∧ partB n share ≤ n := by
  have := partB_mul hn hs
  unfold partB
  rw [Int.tdiv_eq_ediv_of_nonneg (by omega)]
  omega
noncomputable def leaveD (s : SheetM) (b : BrushM) (x y : Int) (k : Nat) : Int := if waxP s x y then 0 else minM (partB (b.dye k) b.share) (1000 - s.dye y.toNat x.toNat k)
noncomputable def leaveW (s : SheetM) (b : BrushM) (x y : Int) : Int := if waxP s x y then 0 else minM (partB b.water b.share) (200 - s.wet y.toNat x.toNat)
noncomputable def leaveV (s : SheetM) (b : BrushM) (x y : Int) : AV :=
  .tup [.agg (.arr 3 (.int .i64)) (a1 .i64 (if askB s b x y = 0 then upTo (leaveD s b x y) 0 3 else fun _ => 0)), .int .i64 (if askB s b x y = 0 then leaveW s b x y else 0), .int .i64 (askB s b x y)]
section
variable {s : SheetM} {b : BrushM} {x y c : Int}
theorem leaveV_code (e : askB s b x y = c) (hc : c ≠ 0) : leaveV s b x y = .tup [.agg (.arr 3 (.int .i64)) (a1 .i64 fun _ => 0), .int .i64 0, .int .i64 c] := by
  simp [leaveV, e, hc]
theorem leaveV_ok (e : askB s b x y = 0) : leaveV s b x y = .tup [.agg (.arr 3 (.int .i64)) (a1 .i64 (upTo (leaveD s b x y) 0 3)), .int .i64 (leaveW s b x y), .int .i64 0] := by
  simp [leaveV, e]
theorem leaveD_bd (hs : validS s) (hb : brushP b) (hh : hasP s x y) (k : Nat) (hk : k < 3) : 0 ≤ leaveD s b x y k ∧ leaveD s b x y k ≤ b.dye k ∧ leaveD s b x y k ≤ 1000 - s.dye y.toNat x.toNat k := by
  have h1 := (cell_bd hs hh).2 k hk
  have h2 := hb.1 k hk
  have h3 := partB_bd (n := b.dye k) (share := b.share) (by omega) hb.2.2.2
  unfold leaveD minM
  split
  · omega
  · split <;> omega
theorem leaveW_bd (hs : validS s) (hb : brushP b) (hh : hasP s x y) : 0 ≤ leaveW s b x y ∧ leaveW s b x y ≤ b.water ∧ leaveW s b x y ≤ 200 - s.wet y.toNat x.toNat := by
  have h1 := (cell_bd hs hh).1
  have h2 := hb.2.2.1
  have h3 := partB_bd (n := b.water) (share := b.share) (by omega) hb.2.2.2
  unfold wetM at h1
  unfold leaveW minM
  split
  · omega
  · split <;> omega
end
end Ink
