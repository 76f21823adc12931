/- What the program means: the order of spots; sums over pairs. No conditions. -/
import Derived.Test.YtdooejjnjfgnjaaInk30
set_option linter.unusedVariables false
set_option linter.unusedSimpArgs false
namespace Ink
open Go
def cmpI (a b : Int) : Int := if a < b then -1 else if b < a then 1 else 0
def orI (a b : Int) : Int := if a = 0 then b else a
def ordI (ax ay bx by' : Int) : Int := orI (cmpI ay by') (cmpI ax bx)
theorem ordI_lt {f : FoldM} {x y : Int} : ordI x y (partX f x) (partY f y) < 0 ↔ firstP f x y := by
  unfold ordI orI cmpI partX partY firstP
  by_cases h : f.down = true
  · simp only [h, if_true]
    split <;> split at * <;> (try split at *) <;> omega
  · simp only [h, if_false]
    split <;> split at * <;> (try split at *) <;> (try split) <;> (try split) <;> (try split at *) <;> (try simp only [Bool.false_eq_true, if_false]) <;> omega
end Ink
