/- What the program means: a half that is unfolded; partners. No conditions. -/
import Derived.Test.YtdooejjnjfgnjaaInk25
set_option linter.unusedVariables false
set_option linter.unusedSimpArgs false
namespace Ink
open Go
def partX (f : FoldM) (x : Int) : Int := if f.down then x else 2 * f.axis - 1 - x
def partY (f : FoldM) (y : Int) : Int := if f.down then 2 * f.axis - 1 - y else y
def unfW (s : SheetM) (dn : Bool) : Int := if dn then s.w else 2 * s.w
def unfH (s : SheetM) (dn : Bool) : Int := if dn then 2 * s.h else s.h
def unfF (s : SheetM) (dn : Bool) : FoldM := ⟨if dn then s.h else s.w, dn, 0⟩
abbrev unfX (s : SheetM) : Int → Int → Int := fun x _ => mm false x (2 * s.w - 1 - x)
abbrev unfY (s : SheetM) : Int → Int → Int := fun _ y => mm false y (2 * s.h - 1 - y)
def unfGx (s : SheetM) (dn : Bool) (x _y : Nat) : Nat := if dn then x else if x < s.w.toNat then x else 2 * s.w.toNat - 1 - x
def unfGy (s : SheetM) (dn : Bool) (_x y : Nat) : Nat := if dn then (if y < s.h.toNat then y else 2 * s.h.toNat - 1 - y) else y
/-- Each cell is copied to its place and to that of its partner. -/
def unfTo (s : SheetM) (dn : Bool) : Nat → SheetM
  | 0 => ⟨unfW s dn, unfH s dn, fun _ _ => 0, fun _ _ _ => 0, fun _ => 0⟩
  | n + 1 => copyM (copyM (unfTo s dn n) (n % s.w.toNat : Nat) (n / s.w.toNat : Nat) s (n % s.w.toNat : Nat) (n / s.w.toNat : Nat))
      (partX (unfF s dn) (n % s.w.toNat : Nat)) (partY (unfF s dn) (n / s.w.toNat : Nat)) s (n % s.w.toNat : Nat) (n / s.w.toNat : Nat)
theorem unfTo_succ {s : SheetM} {dn : Bool} {n : Nat} : unfTo s dn (n + 1) = copyM (copyM (unfTo s dn n) (n % s.w.toNat : Nat) (n / s.w.toNat : Nat) s (n % s.w.toNat : Nat) (n / s.w.toNat : Nat))
      (partX (unfF s dn) (n % s.w.toNat : Nat)) (partY (unfF s dn) (n / s.w.toNat : Nat)) s (n % s.w.toNat : Nat) (n / s.w.toNat : Nat) := rfl
theorem unfTo_w {s dn n} : (unfTo s dn n).w = unfW s dn := by
  induction n with
  | zero => rfl
  | succ n ih => rw [unfTo_succ]; exact ih
theorem unfTo_h {s dn n} : (unfTo s dn n).h = unfH s dn := by
  induction n with
  | zero => rfl
  | succ n ih => rw [unfTo_succ]; exact ih
theorem unfTo_filled {s : SheetM} {dn : Bool} (hw : 1 ≤ s.w ∧ s.w ≤ 8) (hh : 1 ≤ s.h ∧ s.h ≤ 8) (hW : unfW s dn ≤ 8) (hH : unfH s dn ≤ 8) :
    ∀ n, n ≤ s.w.toNat * s.h.toNat → Filled s (unfGx s dn) (unfGy s dn) (unfTo s dn n) fun x y => before s.w.toNat n (unfGx s dn x y) (unfGy s dn x y) ∧ x < (unfW s dn).toNat ∧ y < (unfH s dn).toNat := by
  intro n
  have hpos : 0 < s.w.toNat := by omega
  induction n with
  | zero => exact fun _ => Filled.zero.congr fun x y _ _ => ⟨fun h => h.elim, fun h => by have := h.1; unfold before at this; omega⟩
  | succ n ih =>
    intro hn
    have hc := cell_in (w := s.w.toNat) (h := s.h.toNat) (n := n) (by omega)
    have hself := before_self (n := n) hpos
    have hsucc := fun x y => before_succ (n := n) (x := x) (y := y) hpos
    rw [unfTo_succ]
    generalize n % s.w.toNat = x at *
    generalize n / s.w.toNat = y at *
    cases dn with
    | false =>
      simp only [unfW, unfH, unfF, partX, partY, Bool.false_eq_true, if_false] at *
      have e1 : unfGx s false x y = x := by unfold unfGx; simp [hc.1]
      have e2 : unfGy s false x y = y := rfl
      have hp : (2 * s.w - 1 - (x : Int)) = ((2 * s.w.toNat - 1 - x : Nat) : Int) := by omega
      rw [hp]
      have e3 : unfGx s false (2 * s.w.toNat - 1 - x) y = x := by unfold unfGx; simp only [Bool.false_eq_true, if_false]; rw [if_neg (by omega)]; omega
      have e4 : unfGy s false (2 * s.w.toNat - 1 - x) y = y := rfl
      have h1 := (ih (by omega)).copy (x := x) (y := y) (by omega) (by omega) (by rw [e1, e2]; exact fun h => hself h.1)
      have h2 := h1.copy (x := 2 * s.w.toNat - 1 - x) (y := y) (by omega) (by omega) (by
        rw [e3, e4]
        rintro (h | h)
        · omega
        · exact hself h.1)
      rw [e1, e2, e3, e4] at h2
      refine h2.congr fun a b ha hb => ?_
      rw [hsucc]
      constructor
      · rintro (⟨rfl, rfl⟩ | ⟨rfl, rfl⟩ | h)
        · exact ⟨.inl ⟨e3, rfl⟩, by omega, by omega⟩
        · exact ⟨.inl ⟨e1, rfl⟩, by omega, by omega⟩
        · exact ⟨.inr h.1, h.2⟩
      · rintro ⟨⟨h1, h2⟩ | h, h3⟩
        · have h2' : b = y := h2
          unfold unfGx at h1
          simp only [Bool.false_eq_true, if_false] at h1
          split at h1
          · exact .inr (.inl ⟨h1, h2'⟩)
          · exact .inl ⟨by omega, h2'⟩
        · exact .inr (.inr ⟨h, h3⟩)
    | true =>
      simp only [unfW, unfH, unfF, partX, partY, if_true] at *
      have e1 : unfGx s true x y = x := rfl
      have e2 : unfGy s true x y = y := by unfold unfGy; simp [hc.2]
      have hp : (2 * s.h - 1 - (y : Int)) = ((2 * s.h.toNat - 1 - y : Nat) : Int) := by omega
      rw [hp]
      have e3 : unfGx s true x (2 * s.h.toNat - 1 - y) = x := rfl
      have e4 : unfGy s true x (2 * s.h.toNat - 1 - y) = y := by unfold unfGy; simp only [if_true]; rw [if_neg (by omega)]; omega
      have h1 := (ih (by omega)).copy (x := x) (y := y) (by omega) (by omega) (by rw [e1, e2]; exact fun h => hself h.1)
      have h2 := h1.copy (x := x) (y := 2 * s.h.toNat - 1 - y) (by omega) (by omega) (by
        rw [e3, e4]
        rintro (h | h)
        · omega
        · exact hself h.1)
      rw [e1, e2, e3, e4] at h2
      refine h2.congr fun a b ha hb => ?_
      rw [hsucc]
      constructor
      · rintro (⟨rfl, rfl⟩ | ⟨rfl, rfl⟩ | h)
        · exact ⟨.inl ⟨rfl, e4⟩, by omega, by omega⟩
        · exact ⟨.inl ⟨rfl, e2⟩, by omega, by omega⟩
        · exact ⟨.inr h.1, h.2⟩
      · rintro ⟨⟨h1, h2⟩ | h, h3⟩
        · have h1' : a = x := h1
          unfold unfGy at h2
          simp only [if_true] at h2
          split at h2
          · exact .inr (.inl ⟨h1', h2⟩)
          · exact .inl ⟨h1', by omega⟩
        · exact .inr (.inr ⟨h, h3⟩)
theorem unf_same {s : SheetM} {dn : Bool} (hv : validS s) (hW : unfW s dn ≤ 8) (hH : unfH s dn ≤ 8) : sameS (movedM s (unfW s dn) (unfH s dn) (unfX s) (unfY s)) (unfTo s dn (s.w.toNat * s.h.toNat)) := by
  have hw := hv.1
  have hh := hv.2.1
  have hW0 : 0 ≤ unfW s dn := by unfold unfW; split <;> omega
  have hH0 : 0 ≤ unfH s dn := by unfold unfH; split <;> omega
  have h1 := movedTo_filled (s := s) (w := unfW s dn) (h := unfH s dn) (fx := unfX s) (fy := unfY s) (gx := unfGx s dn) (gy := unfGy s dn) ⟨hW0, hW⟩ ⟨hH0, hH⟩ (fun x y hx hy => by
    unfold unfW unfH at *
    unfold unfX unfY unfGx unfGy mm
    simp only [Bool.false_eq_true, if_false]
    cases dn <;> simp only [Bool.false_eq_true, if_false, if_true] at *
    · refine ⟨?_, ?_⟩
      · split <;> split <;> omega
      · split <;> omega
    · refine ⟨?_, ?_⟩
      · split <;> omega
      · split <;> split <;> omega) _ (Nat.le_refl _)
  have h2 := unfTo_filled hw hh hW hH _ (Nat.le_refl _)
  refine h1.same (h2.congr fun x y _ _ => ?_) (movedTo_w.trans unfTo_w.symm) (movedTo_h.trans unfTo_h.symm)
  rw [before_all, before_all]
  constructor
  · exact fun h => h.2
  · intro h
    refine ⟨?_, h⟩
    unfold unfW unfH at *
    unfold unfGx unfGy
    cases dn <;> simp only [Bool.false_eq_true, if_false, if_true] at *
    · refine ⟨?_, by omega⟩
      split <;> omega
    · refine ⟨by omega, ?_⟩
      split <;> omega
noncomputable def unfC (s : SheetM) (dn : Bool) : Int := if validS s then (if 8 < unfW s dn ∨ 8 < unfH s dn then 3 else 0) else 1
theorem unfC_bad {s dn} (h : ¬ validS s) : unfC s dn = 1 := by simp [unfC, h]
theorem unfC_lim {s dn} (h : validS s) (h2 : 8 < unfW s dn ∨ 8 < unfH s dn) : unfC s dn = 3 := by simp only [unfC, h, h2, if_true]
theorem unfC_ok {s dn} (h : validS s) (h2 : ¬ (8 < unfW s dn ∨ 8 < unfH s dn)) : unfC s dn = 0 := by simp only [unfC, h, h2, if_true, if_false]
theorem unfS_same {s : SheetM} {dn : Bool} : sameS (codeS (unfC s dn) (movedM s (unfW s dn) (unfH s dn) (unfX s) (unfY s))) (codeS (unfC s dn) (unfTo s dn (s.w.toNat * s.h.toNat))) := by
  unfold codeS
  by_cases hc : unfC s dn = 0
  · rw [if_pos hc, if_pos hc]
    by_cases hv : validS s
    · by_cases h2 : 8 < unfW s dn ∨ 8 < unfH s dn
      · rw [unfC_lim hv h2] at hc; omega
      · exact unf_same hv (by omega) (by omega)
    · rw [unfC_bad hv] at hc; omega
  · rw [if_neg hc, if_neg hc]; exact sameS.refl _
end Ink
