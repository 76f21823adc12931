/- What the program means: brushes, more. No conditions. -/
import Derived.Test.YtdooejjnjfgnjaaInk29
set_option linter.unusedVariables false
set_option linter.unusedSimpArgs false
namespace Ink
open Go
theorem arr3_fl0 {k : IntKind} : (Sh.arr 3 (.int k)).fld 0 = some (.int k) := rfl
theorem arr3_fl1 {k : IntKind} : (Sh.arr 3 (.int k)).fld 1 = some (.int k) := rfl
theorem arr3_fl2 {k : IntKind} : (Sh.arr 3 (.int k)).fld 2 = some (.int k) := rfl
theorem u1_three {a b c : Int} {f : Nat → Int} (ha : a = f 0) (hb : b = f 1) (hc : c = f 2) : u1 (u1 (u1 (fun _ => 0) 0 a) 1 b) 2 c = upTo f 0 3 := by
  funext j
  unfold u1 upTo
  match j with
  | 0 => simp [ha]
  | 1 => simp [hb]
  | 2 => simp [hc]
  | j + 3 =>
    rw [if_neg (by omega), if_neg (by omega), if_neg (by omega), if_neg (by omega)]
def nB (b : BrushM) : BrushM := ⟨n3 b.dye, b.water, b.share⟩
theorem nB_Ok {b : BrushM} (h : b.Ok) : (nB b).Ok := ⟨fun i => upTo_P (p := fun x => -32768 ≤ x ∧ x < 32768) h.dye (by omega) i, h.water, h.share⟩
theorem leaveD_wax {s b x y} (h : waxP s x y) : upTo (leaveD s b x y) 0 3 = fun _ => 0 := by
  have : leaveD s b x y = fun _ => 0 := by funext k; unfold leaveD; rw [if_pos h]
  rw [this]; exact upTo_const
theorem leaveW_wax {s b x y} (h : waxP s x y) : leaveW s b x y = 0 := by unfold leaveW; rw [if_pos h]
end Ink
