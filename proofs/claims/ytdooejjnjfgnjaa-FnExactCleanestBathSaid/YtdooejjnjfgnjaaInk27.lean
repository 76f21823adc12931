/- What the program means: partners told with a code, and rinsing. No conditions. -/
import Derived.Test.YtdooejjnjfgnjaaInk26
set_option linter.unusedVariables false
set_option linter.unusedSimpArgs false
namespace Ink
open Go
noncomputable def partC (s : SheetM) (f : FoldM) (x y : Int) : Int := if askF s f (decide (hasP s x y)) = 0 then (if hasP s (partX f x) (partY f y) then 0 else 6) else askF s f (decide (hasP s x y))
noncomputable def partV (s : SheetM) (f : FoldM) (x y : Int) : AV := .tup [.agg shSpot (spotD (if partC s f x y = 0 then partX f x else 0) (if partC s f x y = 0 then partY f y else 0)), .int .i64 (partC s f x y)]
section
variable {s : SheetM} {f : FoldM} {x y c : Int}
theorem partV_code (e : askF s f (decide (hasP s x y)) = c) (hc : c ≠ 0) : partV s f x y = .tup [.agg shSpot (spotD 0 0), .int .i64 c] := by
  have : partC s f x y = c := by simp only [partC, e, hc, if_false]
  simp [partV, this, hc]
theorem partV_none (e : askF s f (decide (hasP s x y)) = 0) (h : ¬ hasP s (partX f x) (partY f y)) : partV s f x y = .tup [.agg shSpot (spotD 0 0), .int .i64 6] := by
  have : partC s f x y = 6 := by simp only [partC, e, h, if_true, if_false]
  simp [partV, this]
theorem partV_ok (e : askF s f (decide (hasP s x y)) = 0) (h : hasP s (partX f x) (partY f y)) : partV s f x y = .tup [.agg shSpot (spotD (partX f x) (partY f y)), .int .i64 0] := by
  have : partC s f x y = 0 := by simp only [partC, e, h, if_true]
  simp [partV, this]
end
theorem fold_ax {s : SheetM} {f : FoldM} (hv : validS s) (hp : foldP s f) : 1 ≤ f.axis ∧ f.axis ≤ 7 := by
  have := hv.1
  have := hv.2.1
  unfold foldP sideM at hp
  by_cases h : f.down = true
  · simp only [h, if_true] at hp; omega
  · simp only [h, if_false] at hp; omega
/-! Rinsing -/
def rinseBy (d share : Int) : Int := (d * share + 15).tdiv 16
theorem rinseBy_mul {d share : Int} (hd : 0 ≤ d ∧ d ≤ 1000) (hs : 1 ≤ share ∧ share ≤ 15) : 0 ≤ d * share ∧ d * share ≤ d * 15 ∧ d ≤ d * share := by
  refine ⟨Int.mul_nonneg hd.1 (by omega), Int.mul_le_mul_of_nonneg_left hs.2 hd.1, ?_⟩
  have := Int.mul_le_mul_of_nonneg_left hs.1 hd.1
  omega
theorem rinseBy_bd {d share : Int} (hd : 0 ≤ d ∧ d ≤ 1000) (hs : 1 ≤ share ∧ share ≤ 15) : 0 ≤ rinseBy d share ∧ rinseBy d share ≤ d ∧ (0 < d → 0 < rinseBy d share) := by
  have := rinseBy_mul hd hs
  unfold rinseBy
  rw [Int.tdiv_eq_ediv_of_nonneg (by omega)]
  omega
abbrev RinM := SheetM × (Nat → Int)
def rinse1 (share : Int) (st : RinM) (x y k : Nat) : RinM :=
  ({ st.1 with dye := u3 st.1.dye y x k (st.1.dye y x k - rinseBy (st.1.dye y x k) share) }, u1 st.2 k (st.2 k + rinseBy (st.1.dye y x k) share))
def rinseInk (share : Int) (st : RinM) (x y : Nat) : Nat → RinM
  | 0 => st
  | k + 1 => rinse1 share (rinseInk share st x y k) x y k
def rinseTo (s : SheetM) (share : Int) : Nat → RinM
  | 0 => (s, fun _ => 0)
  | n + 1 => rinseInk share (rinseTo s share n) (n % s.w.toNat) (n / s.w.toNat) 3
theorem rinseInk_zero {share st x y} : rinseInk share st x y 0 = st := rfl
theorem rinseInk_succ {share st x y k} : rinseInk share st x y (k + 1) = rinse1 share (rinseInk share st x y k) x y k := rfl
theorem rinseTo_zero {s share} : rinseTo s share 0 = (s, fun _ => 0) := rfl
theorem rinseTo_succ {s share n} : rinseTo s share (n + 1) = rinseInk share (rinseTo s share n) (n % s.w.toNat) (n / s.w.toNat) 3 := rfl
/-- What stays so: sides, water and wax, and the dyes' bounds. -/
structure RinOk (s : SheetM) (c : Int) (st : RinM) : Prop where
  w : st.1.w = s.w
  h : st.1.h = s.h
  wet : st.1.wet = s.wet
  wax : st.1.wax = s.wax
  dye : ∀ y x k, y < 8 → x < 8 → k < 3 → 0 ≤ st.1.dye y x k ∧ st.1.dye y x k ≤ s.dye y x k
  out : ∀ y x k, ¬ (y < 8 ∧ x < 8 ∧ k < 3) → st.1.dye y x k = s.dye y x k
  sum : ∀ k, 0 ≤ st.2 k ∧ st.2 k ≤ c
def dyeOk (s : SheetM) : Prop := ∀ y x k, y < 8 → x < 8 → k < 3 → 0 ≤ s.dye y x k ∧ s.dye y x k ≤ 1000
theorem valid_dye {s : SheetM} (hv : validS s) : dyeOk s := fun y x k hy hx hk => by
  have h := (hv.2.2 y hy x hx).2.2.1 k hk
  simpa using h
theorem u3_at {α : Type} {f : Nat → Nat → Nat → α} {i j k i' j' k' : Nat} {v : α} : u3 f i j k v i' j' k' = if i' = i ∧ j' = j ∧ k' = k then v else f i' j' k' := by
  unfold u3 u2 u1
  by_cases h : i' = i
  · subst h
    by_cases h2 : j' = j
    · subst h2
      by_cases h3 : k' = k <;> simp [h3]
    · simp [h2]
  · simp [h]
theorem u1_at {α : Type} {f : Nat → α} {i i' : Nat} {v : α} : u1 f i v i' = if i' = i then v else f i' := rfl
theorem RinOk.step {s : SheetM} {c share : Int} {st : RinM} {x y k : Nat} (hd : dyeOk s) (hs : 1 ≤ share ∧ share ≤ 15) (h : RinOk s c st) (hx : x < 8) (hy : y < 8) (hk : k < 3) : RinOk s (c + 1000) (rinse1 share st x y k) := by
  have h1 := h.dye y x k hy hx hk
  have h2 := hd y x k hy hx hk
  have hb := rinseBy_bd (d := st.1.dye y x k) (share := share) (by omega) hs
  refine ⟨h.w, h.h, h.wet, h.wax, fun b a q hb' ha hq => ?_, fun b a q hn => ?_, fun q => ?_⟩
  · show 0 ≤ u3 st.1.dye y x k _ b a q ∧ u3 st.1.dye y x k _ b a q ≤ _
    rw [u3_at]
    split
    · rename_i e
      obtain ⟨rfl, rfl, rfl⟩ := e
      omega
    · exact h.dye b a q hb' ha hq
  · show u3 st.1.dye y x k _ b a q = _
    rw [u3_at, if_neg (fun e => hn ⟨by omega, by omega, by omega⟩)]
    exact h.out b a q hn
  · show 0 ≤ u1 st.2 k _ q ∧ u1 st.2 k _ q ≤ _
    have h3 := h.sum q
    have h4 := h.sum k
    rw [u1_at]
    split <;> omega
theorem RinOk.ink {s : SheetM} {c share : Int} {st : RinM} {x y : Nat} (hd : dyeOk s) (hs : 1 ≤ share ∧ share ≤ 15) (h : RinOk s c st) (hx : x < 8) (hy : y < 8) : ∀ k : Nat, k ≤ 3 → RinOk s (c + 1000 * (k : Int)) (rinseInk share st x y k) := by
  intro k
  induction k with
  | zero => intro _; rw [rinseInk_zero]; simpa using h
  | succ k ih =>
    intro hk
    have := (ih (by omega)).step hd hs hx hy (k := k) (by omega)
    rw [rinseInk_succ]
    have e : c + 1000 * ((k + 1 : Nat) : Int) = c + 1000 * (k : Int) + 1000 := by omega
    rw [e]; exact this
theorem RinOk.to {s : SheetM} {share : Int} (hd : dyeOk s) (hs : 1 ≤ share ∧ share ≤ 15) (hm : small s) : ∀ n : Nat, n ≤ s.w.toNat * s.h.toNat → RinOk s (3000 * (n : Int)) (rinseTo s share n) := by
  intro n
  induction n with
  | zero => exact fun _ => ⟨rfl, rfl, rfl, rfl, fun y x k hy hx hk => ⟨(hd y x k hy hx hk).1, Int.le_refl _⟩, fun _ _ _ _ => rfl, fun _ => by simp [rinseTo_zero]⟩
  | succ n ih =>
    intro hn
    have hc := cell_in (w := s.w.toNat) (h := s.h.toNat) (n := n) (by omega)
    have := (ih (by omega)).ink hd hs (x := n % s.w.toNat) (y := n / s.w.toNat) (by omega) (by omega) 3 (by omega)
    rw [rinseTo_succ]
    have e : (3000 : Int) * ((n + 1 : Nat) : Int) = 3000 * (n : Int) + 1000 * ((3 : Nat) : Int) := by omega
    rw [e]; exact this
abbrev rinseM (s : SheetM) (share : Int) : RinM := rinseTo s share (s.w.toNat * s.h.toNat)
theorem codeM_cases (s : SheetM) (r : Bool) : (codeM s r = 0 ∧ validS s ∧ r = true) ∨ codeM s r = 1 ∨ codeM s r = 2 := by
  unfold codeM
  by_cases hv : validS s
  · cases r <;> simp [hv]
  · simp [hv]
noncomputable def rinC (s : SheetM) (share : Int) : Int := codeM s (decide (1 ≤ share ∧ share ≤ 15))
noncomputable def rinV (s : SheetM) (share : Int) : AV := .tup [.agg shSheet (sheetD (if rinC s share = 0 then (rinseM s share).1 else zeroSheet)), .agg (.arr 3 (.int .i64)) (a1 .i64 (if rinC s share = 0 then upTo (rinseM s share).2 0 3 else fun _ => 0)), .int .i64 (rinC s share)]
theorem rinV_ok {s share} (e : rinC s share = 0) : rinV s share = .tup [.agg shSheet (sheetD (rinseM s share).1), .agg (.arr 3 (.int .i64)) (a1 .i64 (upTo (rinseM s share).2 0 3)), .int .i64 0] := by simp [rinV, e]
theorem rinV_no {s share} {c : Int} (e : rinC s share = c) (hc : c ≠ 0) : rinV s share = .tup [.agg shSheet (sheetD zeroSheet), .agg (.arr 3 (.int .i64)) (a1 .i64 fun _ => 0), .int .i64 c] := by simp [rinV, e, hc]
end Ink
