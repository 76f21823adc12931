/- More of what the program means: colours, askings. No conditions. -/
import Derived.Test.YtdooejjnjfgnjaaInk18
set_option linter.unusedVariables false
set_option linter.unusedSimpArgs false
namespace Ink
open Go
noncomputable def askM (s : SheetM) (x y : Int) (r : Bool) : Int := if validS s then (if hasP s x y ∧ r = true then 0 else 2) else 1
/-- The last place of a number among the first, and how many there are. -/
def inkTo (f : Nat → Int) (m : Int) : Nat → Int × Int
  | 0 => (0, 0)
  | n + 1 => if f n = m then ((n : Int), (inkTo f m n).2 + 1) else inkTo f m n
theorem inkTo_zero {f m} : inkTo f m 0 = (0, 0) := rfl
theorem inkTo_yes {f : Nat → Int} {m : Int} {n : Nat} (h : f n = m) : inkTo f m (n + 1) = ((n : Int), (inkTo f m n).2 + 1) := by rw [inkTo, if_pos h]
theorem inkTo_no {f : Nat → Int} {m : Int} {n : Nat} (h : ¬ f n = m) : inkTo f m (n + 1) = inkTo f m n := by rw [inkTo, if_neg h]
theorem inkTo_nn {f m} {n : Nat} : 0 ≤ (inkTo f m n).2 ∧ (inkTo f m n).2 ≤ n ∧ 0 ≤ (inkTo f m n).1 ∧ (inkTo f m n).1 ≤ n := by
  induction n with
  | zero => simp [inkTo]
  | succ n ih =>
    rw [inkTo]; split
    · dsimp only; omega
    · omega
theorem inkTo_mono {f m} {a b : Nat} (h : a ≤ b) : (inkTo f m a).2 ≤ (inkTo f m b).2 := by
  induction b with
  | zero => obtain rfl : a = 0 := by omega
            exact Int.le_refl _
  | succ b ih =>
    by_cases e : a = b + 1
    · subst e; exact Int.le_refl _
    · have := ih (by omega)
      rw [inkTo.eq_2]; split
      · dsimp only; omega
      · exact this
theorem inkTo_pos {f m} {a b : Nat} (h : a < b) (e : f a = m) : 0 < (inkTo f m b).2 := by
  have h1 := inkTo_mono (f := f) (m := m) (show a + 1 ≤ b from h)
  rw [inkTo_yes e] at h1
  have := inkTo_nn (f := f) (m := m) (n := a)
  dsimp only at h1
  omega
def maxM (a b : Int) : Int := if b < a then a else b
def max3 (f : Nat → Int) : Int := maxM (f 0) (maxM (f 1) (f 2))
theorem max3_one {f : Nat → Int} : f 0 = max3 f ∨ f 1 = max3 f ∨ f 2 = max3 f := by unfold max3 maxM; split <;> split <;> simp
def colourM (f : Nat → Int) : Int := if max3 f = 0 then -1 else if 1 < (inkTo f (max3 f) 3).2 then 3 else (inkTo f (max3 f) 3).1
theorem inkTo_some {f : Nat → Int} : 0 < (inkTo f (max3 f) 3).2 := by
  rcases max3_one (f := f) with h | h | h
  · exact inkTo_pos (by omega) h
  · exact inkTo_pos (by omega) h
  · exact inkTo_pos (by omega) h
def bestI (p : Int × Int) : Int := if p.2 = 0 then -1 else p.1
theorem bestI_nn {f m} {k : Nat} : 0 ≤ bestI (inkTo f m k) ↔ (inkTo f m k).2 ≠ 0 := by
  have := inkTo_nn (f := f) (m := m) (n := k)
  unfold bestI; split <;> omega
theorem mm_max3 {f : Nat → Int} : mm true (mm true (f 0) (f 1)) (f 2) = max3 f := by
  unfold max3 maxM mm
  simp only [if_true]
  repeat' split
  all_goals omega
theorem ask_code {s : SheetM} {x y : Int} {r : Bool} : askM s x y r = codeM s (decide (hasP s x y) && r) := by
  unfold askM codeM
  by_cases h : hasP s x y <;> cases r <;> simp [h]
theorem ask_ok {s : SheetM} {x y : Int} {r : Bool} (hv : validS s) (hh : hasP s x y) (hr : r = true) : askM s x y r = 0 := by simp [askM, hv, hh, hr]
theorem ask_in8 {s : SheetM} {x y : Int} (hv : validS s) (hh : hasP s x y) : in8 x y := by
  have := hv.1; have := hv.2.1; unfold hasP at hh; omega
theorem askM_cases (s : SheetM) (x y : Int) (r : Bool) : (askM s x y r = 0 ∧ validS s ∧ hasP s x y ∧ r = true) ∨ askM s x y r = 1 ∨ askM s x y r = 2 := by
  unfold askM
  by_cases hv : validS s
  · by_cases h : hasP s x y ∧ r = true
    · simp [hv, h]
    · simp [hv, h]
  · simp [hv]
/-- What ends with a code if something is not right. -/
noncomputable def colourAtV (s : SheetM) (x y : Int) : AV := .tup [.int .i64 (if askM s x y true = 0 then colourM (s.dye y.toNat x.toNat) else 0), .int .i64 (askM s x y true)]
end Ink
