/- What the program means: the most of all cells, sheets that are equal, and sheets that are changed. No conditions. -/
import Derived.Test.YtdooejjnjfgnjaaInk20
set_option linter.unusedVariables false
set_option linter.unusedSimpArgs false
namespace Ink
open Go
/-- The first of the first cells for which a number is greatest, and this; 0 if none is greater. -/
def mostTo (g : Nat → Nat → Int) (w : Nat) : Nat → Nat × Int
  | 0 => (0, 0)
  | n + 1 => if (mostTo g w n).2 < g (n / w) (n % w) then (n, g (n / w) (n % w)) else mostTo g w n
theorem mostTo_zero {g w} : mostTo g w 0 = (0, 0) := rfl
theorem mostTo_yes {g : Nat → Nat → Int} {w n : Nat} (h : (mostTo g w n).2 < g (n / w) (n % w)) : mostTo g w (n + 1) = (n, g (n / w) (n % w)) := by rw [mostTo, if_pos h]
theorem mostTo_no {g : Nat → Nat → Int} {w n : Nat} (h : ¬ (mostTo g w n).2 < g (n / w) (n % w)) : mostTo g w (n + 1) = mostTo g w n := by rw [mostTo, if_neg h]
/-- For numbers from 0 on: the number told is that of the cell told. -/
theorem mostTo_at {g : Nat → Nat → Int} {w n : Nat} (h : ∀ k < n + 1, 0 ≤ g (k / w) (k % w)) : (mostTo g w (n + 1)).2 = g ((mostTo g w (n + 1)).1 / w) ((mostTo g w (n + 1)).1 % w) ∧ (mostTo g w (n + 1)).1 ≤ n := by
  induction n with
  | zero =>
    by_cases e : (mostTo g w 0).2 < g (0 / w) (0 % w)
    · rw [mostTo_yes e]; exact ⟨rfl, Nat.le_refl _⟩
    · rw [mostTo_no e]
      have := h 0 (by omega)
      simp only [mostTo] at e ⊢
      refine ⟨?_, Nat.le_refl _⟩
      omega
  | succ n ih =>
    have := ih fun k hk => h k (by omega)
    by_cases e : (mostTo g w (n + 1)).2 < g ((n + 1) / w) ((n + 1) % w)
    · rw [mostTo_yes e]; exact ⟨rfl, Nat.le_refl _⟩
    · rw [mostTo_no e]; exact ⟨this.1, by omega⟩
theorem mostTo_le {g : Nat → Nat → Int} {w n : Nat} : (mostTo g w n).1 ≤ n := by
  induction n with
  | zero => exact Nat.le_refl _
  | succ n ih =>
    rw [mostTo]; split
    · simp
    · omega
theorem mostTo_lt {g : Nat → Nat → Int} {w n : Nat} (h : 0 < n) : (mostTo g w n).1 < n := by
  obtain ⟨m, rfl⟩ : ∃ m, n = m + 1 := ⟨n - 1, by omega⟩
  rw [mostTo]; split
  · simp
  · have := mostTo_le (g := g) (w := w) (n := m); omega
theorem mostTo_nn {g : Nat → Nat → Int} {w n : Nat} : 0 ≤ (mostTo g w n).2 := by
  induction n with
  | zero => exact Int.le_refl _
  | succ n ih =>
    rw [mostTo]; split
    · dsimp only; omega
    · exact ih
theorem mostTo_one {g : Nat → Nat → Int} {w : Nat} : (mostTo g w 1).1 = 0 := by
  rw [mostTo]; split <;> rfl
theorem mostTo_cell {g : Nat → Nat → Int} {w n : Nat} (h1 : 1 ≤ n) (h : ∀ k < n, 0 ≤ g (k / w) (k % w)) : (mostTo g w n).2 = g ((mostTo g w n).1 / w) ((mostTo g w n).1 % w) := by
  obtain ⟨m, rfl⟩ : ∃ m, n = m + 1 := ⟨n - 1, by omega⟩
  exact (mostTo_at h).1
/-- The cell at a place in the order. -/
def cellAt (w n : Nat) : DV := spotD (n % w : Nat) (n / w : Nat)
theorem cellAt_eq {w n : Nat} : cellAt w n = spotD (n % w : Nat) (n / w : Nat) := rfl
theorem cellAt_zero {w : Nat} : cellAt w 0 = spotD 0 0 := by unfold cellAt; simp
abbrev mostA (s : SheetM) (g : Nat → Nat → Int) : Nat × Int := mostTo g s.w.toNat (s.w.toNat * s.h.toNat)
noncomputable def mostX (s : SheetM) (g : Nat → Nat → Int) : Int := if validS s ∧ (mostA s g).2 ≠ 0 then ((mostA s g).1 % s.w.toNat : Nat) else 0
noncomputable def mostY (s : SheetM) (g : Nat → Nat → Int) : Int := if validS s ∧ (mostA s g).2 ≠ 0 then ((mostA s g).1 / s.w.toNat : Nat) else 0
noncomputable def mostN (s : SheetM) (g : Nat → Nat → Int) : Int := if validS s then (mostA s g).2 else 0
noncomputable def mostC (s : SheetM) (g : Nat → Nat → Int) : Int := if validS s then (if (mostA s g).2 = 0 then 6 else 0) else 1
noncomputable def mostV (s : SheetM) (g : Nat → Nat → Int) : AV := .tup [.agg shSpot (spotD (mostX s g) (mostY s g)), .int .i64 (mostN s g), .int .i64 (mostC s g)]
theorem mostV_bad {s g} (h : ¬ validS s) : mostV s g = .tup [.agg shSpot (spotD 0 0), .int .i64 0, .int .i64 1] := by
  simp [mostV, mostX, mostY, mostN, mostC, h]
theorem mostV_none {s g} (h : validS s) (h0 : (mostA s g).2 = 0) : mostV s g = .tup [.agg shSpot (spotD 0 0), .int .i64 0, .int .i64 6] := by
  simp [mostV, mostX, mostY, mostN, mostC, h, h0]
theorem mostV_some {s g} (h : validS s) (h0 : (mostA s g).2 ≠ 0) : mostV s g = .tup [.agg shSpot (cellAt s.w.toNat (mostA s g).1), .int .i64 (mostA s g).2, .int .i64 0] := by
  simp [mostV, mostX, mostY, mostN, mostC, h, h0, cellAt]
def wetG (s : SheetM) (y x : Nat) : Int := s.wet y x
def darkG (s : SheetM) (y x : Nat) : Int := s.dye y x 0 + s.dye y x 1 + s.dye y x 2
theorem wetG_eq {s : SheetM} {x y : Int} : wetM s x y = wetG s y.toNat x.toNat := rfl
theorem darkG_eq {s : SheetM} {x y : Int} : darkM s x y = darkG s y.toNat x.toNat := rfl
theorem wet_nn {s : SheetM} (hv : validS s) {x y : Nat} (hx : x < 8) (hy : y < 8) : 0 ≤ wetG s y x := by
  have := (hv.2.2 y hy x hx).2.1.1
  unfold wetM at this
  simpa [wetG] using this
/-- Sheets that read alike. -/
structure sameS (a b : SheetM) : Prop where
  w : a.w = b.w
  h : a.h = b.h
  wet : ∀ y < 8, ∀ x < 8, a.wet y x = b.wet y x
  dye : ∀ y < 8, ∀ x < 8, ∀ k < 3, a.dye y x k = b.dye y x k
  wax : ∀ y < 8, a.wax y = b.wax y
theorem sameS.refl (a : SheetM) : sameS a a := ⟨rfl, rfl, fun _ _ _ _ => rfl, fun _ _ _ _ _ _ => rfl, fun _ _ => rfl⟩
theorem upTo_ne {α : Type} {f : Nat → α} {d : α} {n k : Nat} (h : k < n) : upTo f d n k = f k := by simp [upTo, h]
noncomputable def dryS (s : SheetM) : SheetM := if validS s then { s with wet := fun _ _ => 0 } else zeroSheet
noncomputable def dryN (s : SheetM) : Int := if validS s then sumAll s.wet else 0
noncomputable def okC (s : SheetM) : Int := if validS s then 0 else 1
noncomputable def dryAllV (s : SheetM) : AV := .tup [.agg shSheet (sheetD (dryS s)), .int .i64 (dryN s), .int .i64 (okC s)]
theorem dryAllV_ok {s} (h : validS s) : dryAllV s = .tup [.agg shSheet (sheetD { s with wet := fun _ _ => 0 }), .int .i64 (sumAll s.wet), .int .i64 0] := by simp [dryAllV, dryS, dryN, okC, h]
theorem dryAllV_bad {s} (h : ¬ validS s) : dryAllV s = .tup [.agg shSheet (sheetD zeroSheet), .int .i64 0, .int .i64 1] := by simp [dryAllV, dryS, dryN, okC, h]
theorem wet_bd {s : SheetM} (hs : s.Ok) {n : Nat} : -32768 * (n : Int) ≤ sumCells s s.wet n ∧ sumCells s s.wet n ≤ 32768 * (n : Int) :=
  sumTo_le (f := fun m => s.wet (m / s.w.toNat) (m % s.w.toNat)) (n := n) (a := -32768) (b := 32768) (fun m _ => by have := hs.wet (m / s.w.toNat) (m % s.w.toNat); omega)
/-- The wax of a row with a cell's wax taken away, or put there. -/
def bitU (x : Int) : Int := IntKind.u8.wrap (1 * 2 ^ (min x.toNat 8))
def offU (a x : Int) : Int := IntKind.u8.wrap (BitVec.ofInt 8 a &&& ~~~ BitVec.ofInt 8 (bitU x)).toNat
def onU (a x : Int) : Int := IntKind.u8.wrap (BitVec.ofInt 8 a ||| BitVec.ofInt 8 (bitU x)).toNat
def waxM (s : SheetM) (x y : Int) (on : Bool) : SheetM :=
  { s with wax := u1 s.wax y.toNat (if on then onU (offU (s.wax y.toNat) x) x else offU (s.wax y.toNat) x) }
/-- A cell that is copied from another sheet. -/
def copyM (o : SheetM) (x y : Int) (s : SheetM) (a b : Int) : SheetM :=
  { o with wet := u2 o.wet y.toNat x.toNat (s.wet b.toNat a.toNat), dye := u2 o.dye y.toNat x.toNat (s.dye b.toNat a.toNat),
           wax := if waxP s a b then u1 o.wax y.toNat (onU (o.wax y.toNat) x) else o.wax }
end Ink
