/- What the program means: sheets that are filled cell by cell in different orders read alike. No conditions. -/
import Derived.Test.YtdooejjnjfgnjaaInk24
set_option linter.unusedVariables false
set_option linter.unusedSimpArgs false
namespace Ink
open Go
theorem bitU_eq {x : Int} (h : 0 ≤ x ∧ x < 8) : bitU x = ((2 ^ x.toNat : Nat) : Int) := by
  obtain ⟨n, rfl⟩ := Int.eq_ofNat_of_zero_le h.1
  have hn : n < 8 := by omega
  have : 2 ^ n < 2 ^ 8 := Nat.pow_lt_pow_right (by omega) hn
  unfold bitU
  simp only [Int.toNat_natCast, Nat.min_eq_left (Nat.le_of_lt hn), Int.one_mul]
  rw [wrap_u8]
  · simp
  · exact Int.pow_nonneg (by omega)
  · have e : ((2 : Int) ^ n) = ((2 ^ n : Nat) : Int) := by simp
    rw [e]; omega
theorem ofInt8 {a : Int} (h : 0 ≤ a ∧ a < 256) : (BitVec.ofInt 8 a).toNat = a.toNat := by
  rw [BitVec.toNat_ofInt]
  have : a % ((2 ^ 8 : Nat) : Int) = a := Int.emod_eq_of_lt h.1 (by omega)
  rw [this]
theorem onU_eq {a x : Int} (ha : 0 ≤ a ∧ a < 256) (hx : 0 ≤ x ∧ x < 8) : onU a x = ((a.toNat ||| 2 ^ x.toNat : Nat) : Int) ∧ (a.toNat ||| 2 ^ x.toNat) < 256 := by
  have h2 : 2 ^ x.toNat < 2 ^ 8 := Nat.pow_lt_pow_right (by omega) (by omega)
  have hb := bitU_eq hx
  have h3 : 2 ^ x.toNat < 256 := h2
  have hb2 : 0 ≤ bitU x ∧ bitU x < 256 := by rw [hb]; exact ⟨Int.natCast_nonneg _, Int.ofNat_lt.2 h3⟩
  have hlt : (a.toNat ||| 2 ^ x.toNat) < 2 ^ 8 := Nat.or_lt_two_pow (by omega) h2
  refine ⟨?_, by omega⟩
  unfold onU
  rw [BitVec.toNat_or, ofInt8 ha, ofInt8 hb2, hb, Int.toNat_natCast, wrap_u8 (by omega) (by omega)]
theorem onU_bit {a x : Int} (ha : 0 ≤ a ∧ a < 256) (hx : 0 ≤ x ∧ x < 8) (i : Nat) : (onU a x).toNat.testBit i = (a.toNat.testBit i || decide (i = x.toNat)) := by
  rw [(onU_eq ha hx).1, Int.toNat_natCast, Nat.testBit_or, Nat.testBit_two_pow]
  congr 1
  by_cases h : i = x.toNat
  · simp [h]
  · simp [h]
    exact fun e => h e.symm
/-- What is known of a sheet when some of its cells have been taken from another one. -/
structure Filled (s : SheetM) (fx fy : Nat → Nat → Nat) (o : SheetM) (D : Nat → Nat → Prop) : Prop where
  yes : ∀ x y, x < 8 → y < 8 → D x y → o.wet y x = s.wet (fy x y) (fx x y) ∧ o.dye y x = s.dye (fy x y) (fx x y) ∧ ((o.wax y).toNat.testBit x = decide (waxP s (fx x y : Nat) (fy x y : Nat)))
  no : ∀ x y, x < 8 → y < 8 → ¬ D x y → o.wet y x = 0 ∧ o.dye y x = (fun _ => 0) ∧ ((o.wax y).toNat.testBit x = false)
  wax : ∀ y, 0 ≤ o.wax y ∧ o.wax y < 256
theorem Filled.zero {s : SheetM} {fx fy : Nat → Nat → Nat} {w h : Int} : Filled s fx fy ⟨w, h, fun _ _ => 0, fun _ _ _ => 0, fun _ => 0⟩ fun _ _ => False :=
  ⟨fun _ _ _ _ h => h.elim, fun _ _ _ _ _ => ⟨rfl, rfl, by simp⟩, fun _ => by simp⟩
theorem u2_at {α : Type} {f : Nat → Nat → α} {i j i' j' : Nat} {v : α} : u2 f i j v i' j' = if i' = i ∧ j' = j then v else f i' j' := by
  unfold u2 u1
  by_cases h : i' = i
  · subst h
    by_cases h2 : j' = j <;> simp [h2]
  · simp [h]
theorem Filled.copy {s o : SheetM} {fx fy : Nat → Nat → Nat} {D : Nat → Nat → Prop} (h : Filled s fx fy o D) {x y : Nat} (hx : x < 8) (hy : y < 8) (hD : ¬ D x y) : Filled s fx fy (copyM o x y s (fx x y : Nat) (fy x y : Nat)) fun a b => (a = x ∧ b = y) ∨ D a b := by
  have hw := h.wax y
  have hxx : (0 : Int) ≤ x ∧ (x : Int) < 8 := by omega
  have hbit := onU_bit hw hxx
  have hon := onU_eq hw hxx
  have hrow : ∀ b, (copyM o x y s (fx x y : Nat) (fy x y : Nat)).wax b = if b = y ∧ waxP s (fx x y : Nat) (fy x y : Nat) then onU (o.wax y) x else o.wax b := by
    intro b
    unfold copyM
    dsimp only
    by_cases hp : waxP s (fx x y : Nat) (fy x y : Nat)
    · rw [if_pos hp]
      unfold u1
      by_cases e : b = y
      · subst e; simp [hp]
      · simp [e]
    · rw [if_neg hp, if_neg (fun e => hp e.2)]
  have hwet : ∀ b a, (copyM o x y s (fx x y : Nat) (fy x y : Nat)).wet b a = if b = y ∧ a = x then s.wet (fy x y) (fx x y) else o.wet b a := by
    intro b a
    unfold copyM
    dsimp only
    simp only [Int.toNat_natCast]
    exact u2_at
  have hdye : ∀ b a, (copyM o x y s (fx x y : Nat) (fy x y : Nat)).dye b a = if b = y ∧ a = x then s.dye (fy x y) (fx x y) else o.dye b a := by
    intro b a
    unfold copyM
    dsimp only
    simp only [Int.toNat_natCast]
    exact u2_at
  refine ⟨fun a b ha hb hd => ?_, fun a b ha hb hd => ?_, fun b => ?_⟩
  · rw [hwet, hdye, hrow]
    by_cases e : a = x ∧ b = y
    · obtain ⟨rfl, rfl⟩ := e
      simp only [and_self, if_true, true_and]
      have hno := (h.no a b ha hb hD).2.2
      by_cases hp : waxP s (fx a b : Nat) (fy a b : Nat)
      · rw [if_pos hp, hbit]
        simp [hp]
      · rw [if_neg hp, hno]
        simp [hp]
    · have hd' : D a b := hd.resolve_left e
      have hy' := h.yes a b ha hb hd'
      rw [if_neg (fun q => e ⟨q.2, q.1⟩), if_neg (fun q => e ⟨q.2, q.1⟩)]
      refine ⟨hy'.1, hy'.2.1, ?_⟩
      by_cases q : b = y ∧ waxP s (fx x y : Nat) (fy x y : Nat)
      · rw [if_pos q, hbit]
        obtain ⟨rfl, q⟩ := q
        have : ¬ a = x := fun q => e ⟨q, rfl⟩
        simp only [Int.toNat_natCast, this, decide_false, Bool.or_false]
        exact hy'.2.2
      · rw [if_neg q]; exact hy'.2.2
  · have e : ¬ (a = x ∧ b = y) := fun q => hd (.inl q)
    have hn := h.no a b ha hb fun q => hd (.inr q)
    rw [hwet, hdye, hrow, if_neg (fun q => e ⟨q.2, q.1⟩), if_neg (fun q => e ⟨q.2, q.1⟩)]
    refine ⟨hn.1, hn.2.1, ?_⟩
    by_cases q : b = y ∧ waxP s (fx x y : Nat) (fy x y : Nat)
    · rw [if_pos q, hbit]
      obtain ⟨rfl, q⟩ := q
      have : ¬ a = x := fun q => e ⟨q, rfl⟩
      simp only [Int.toNat_natCast, this, decide_false, Bool.or_false]
      exact hn.2.2
    · rw [if_neg q]; exact hn.2.2
  · rw [hrow]
    split
    · rw [hon.1]; omega
    · exact h.wax b
theorem Filled.congr {s o : SheetM} {fx fy : Nat → Nat → Nat} {D E : Nat → Nat → Prop} (h : Filled s fx fy o D) (e : ∀ x y, x < 8 → y < 8 → (D x y ↔ E x y)) : Filled s fx fy o E :=
  ⟨fun x y hx hy hd => h.yes x y hx hy ((e x y hx hy).2 hd), fun x y hx hy hd => h.no x y hx hy fun q => hd ((e x y hx hy).1 q), h.wax⟩
theorem Filled.same {s a b : SheetM} {fx fy : Nat → Nat → Nat} {D : Nat → Nat → Prop} (ha : Filled s fx fy a D) (hb : Filled s fx fy b D) (hw : a.w = b.w) (hh : a.h = b.h) : sameS a b := by
  have key : ∀ y < 8, ∀ x < 8, a.wet y x = b.wet y x ∧ a.dye y x = b.dye y x ∧ (a.wax y).toNat.testBit x = (b.wax y).toNat.testBit x := by
    intro y hy x hx
    by_cases hd : D x y
    · obtain ⟨h1, h2, h3⟩ := ha.yes x y hx hy hd
      obtain ⟨g1, g2, g3⟩ := hb.yes x y hx hy hd
      exact ⟨h1.trans g1.symm, h2.trans g2.symm, h3.trans g3.symm⟩
    · obtain ⟨h1, h2, h3⟩ := ha.no x y hx hy hd
      obtain ⟨g1, g2, g3⟩ := hb.no x y hx hy hd
      exact ⟨h1.trans g1.symm, h2.trans g2.symm, h3.trans g3.symm⟩
  refine ⟨hw, hh, fun y hy x hx => (key y hy x hx).1, fun y hy x hx k _ => by rw [(key y hy x hx).2.1], fun y hy => ?_⟩
  have h1 := ha.wax y
  have h2 := hb.wax y
  have : (a.wax y).toNat = (b.wax y).toNat := by
    refine Nat.eq_of_testBit_eq fun i => ?_
    by_cases hi : i < 8
    · exact (key y hy i hi).2.2
    · have hp : 2 ^ 8 ≤ 2 ^ i := Nat.pow_le_pow_right (by omega) (by omega)
      rw [Nat.testBit_lt_two_pow (by omega), Nat.testBit_lt_two_pow (by omega)]
  omega
/-- Cells in order: those before a place. -/
def before (w n : Nat) (x y : Nat) : Prop := x < w ∧ y * w + x < n
theorem before_succ {w n x y : Nat} (hw : 0 < w) : before w (n + 1) x y ↔ (x = n % w ∧ y = n / w) ∨ before w n x y := by
  have h1 := Nat.div_add_mod n w
  have h2 := Nat.mod_lt n hw
  unfold before
  constructor
  · rintro ⟨h3, h4⟩
    by_cases e : y * w + x < n
    · exact .inr ⟨h3, e⟩
    · left
      have e2 : y * w + x = n := by omega
      subst e2
      rw [Nat.mul_comm, Nat.mul_add_mod, Nat.mod_eq_of_lt h3, Nat.mul_add_div hw, Nat.div_eq_of_lt h3]
      simp
  · rintro (⟨rfl, rfl⟩ | ⟨h3, h4⟩)
    · refine ⟨h2, ?_⟩
      rw [Nat.mul_comm]; omega
    · exact ⟨h3, by omega⟩
theorem before_self {w n : Nat} (hw : 0 < w) : ¬ before w n (n % w) (n / w) := by
  have h1 := Nat.div_add_mod n w
  unfold before
  rw [Nat.mul_comm]; omega
theorem before_all {w h x y : Nat} : before w (w * h) x y ↔ x < w ∧ y < h := by
  unfold before
  constructor
  · rintro ⟨h1, h2⟩
    refine ⟨h1, ?_⟩
    by_cases e : y < h
    · exact e
    · have : h * w ≤ y * w := Nat.mul_le_mul_right w (by omega)
      rw [Nat.mul_comm w h] at h2
      omega
  · rintro ⟨h1, h2⟩
    refine ⟨h1, ?_⟩
    have : (y + 1) * w ≤ h * w := Nat.mul_le_mul_right w h2
    rw [Nat.add_mul, Nat.one_mul] at this
    rw [Nat.mul_comm w h]
    omega
theorem movedTo_filled {s : SheetM} {w h : Int} {fx fy : Int → Int → Int} {gx gy : Nat → Nat → Nat} (hw : 0 ≤ w ∧ w ≤ 8) (hh : 0 ≤ h ∧ h ≤ 8) (he : ∀ x y : Nat, x < w.toNat → y < h.toNat → fx x y = (gx x y : Nat) ∧ fy x y = (gy x y : Nat)) :
    ∀ n, n ≤ w.toNat * h.toNat → Filled s gx gy (movedTo s w h fx fy n) (before w.toNat n) := by
  intro n
  induction n with
  | zero => exact fun _ => Filled.zero.congr fun x y _ _ => ⟨fun h => h.elim, fun h => by unfold before at h; omega⟩
  | succ n ih =>
    intro hn
    have hc := cell_in (w := w.toNat) (h := h.toNat) (n := n) (by omega)
    have hpos : 0 < w.toNat := by omega
    have e := he _ _ hc.1 hc.2
    rw [movedTo_succ, e.1, e.2]
    exact ((ih (by omega)).copy (x := n % w.toNat) (y := n / w.toNat) (by omega) (by omega) (before_self hpos)).congr fun x y _ _ => (before_succ hpos).symm
end Ink
