/- What the program means: sheets whose cells are taken from another one; writers that read a second block. No conditions. -/
import Derived.Test.YtdooejjnjfgnjaaInk22
set_option linter.unusedVariables false
set_option linter.unusedSimpArgs false
namespace Ink
open Go
/-- A writer of one block that reads another, at any heap. -/
theorem ACall.at2w {P : Program} {f : FuncId} {args : List AV} {v : AV} {B B' C : Blk} (h : ACall P [0] f args [B, C] v [B', C]) (hB : noRef B = true) (hB' : noRef B' = true) (hC : noRef C = true) (hw : B.wr = true) (hw' : B'.wr = true) {H : Heap} {b c : Nat} (hb : H[b]? = some B) (hc : H[c]? = some C) (hne : b ≠ c) {args' : List AV} (hs : inScopes 2 args) (ha : rens (kap [b, c] 2 H.length) args = args') (hv : plain v = true) :
    ACall P [b] f args' H v (H.set b B') := by
  subst ha
  have hr : ∀ (B : Blk), noRef B = true → ∀ κ, renB κ B = B := fun B hB κ => by cases B <;> first | rfl | simp [noRef] at hB
  have hl : ∀ (B : Blk), noRef B = true → B.lv = true := fun B hB => by cases B <;> first | rfl | simp [noRef] at hB
  have hsc : ∀ (B : Blk), noRef B = true → ∀ n, inScopeB n B := fun B hB n => by cases B <;> first | trivial | simp [noRef] at hB
  have h2 := plain_ren (σ := kap [b, c] 2 H.length) (m := 0) hv
  have := ACall.frame (Hm := [B, C]) (Hm' := [B', C]) (N := []) h rfl (H := H) [b, c] rfl (by simp [hne]) (fun i D hi => by
    match i with
    | 0 => simp at hi; subst hi; simp [hr _ hB, hb]
    | 1 => simp at hi; subst hi; simp [hr _ hC, hc]
    | i + 2 => simp at hi) hs (fun D hD => by
      simp at hD
      rcases hD with rfl | rfl
      · exact hsc _ hB _
      · exact hsc _ hC _) (fun i hi => by
    simp at hi
    subst hi
    refine ⟨by simp, fun D hD => ?_⟩
    simp at hD
    subst hD
    exact hw) (fun D hD => by
      simp at hD
      rcases hD with rfl | rfl
      · exact hl _ hB
      · exact hl _ hC) (by simp [hw, hw'])
  simp only [setAll, hr _ hB', hr _ hC, List.length_cons, List.length_nil, Nat.zero_add] at this
  have e0 : kap [b, c] (1 + 1) H.length 0 = b := by simp [kap]
  have e1 : kap [b, c] (1 + 1) H.length 1 = c := by simp [kap]
  rw [e0, e1, h2.1, set_same (H := H.set b B') (by rw [List.getElem?_set_ne hne]; exact hc)] at this
  simpa using this
section
variable {o s : SheetM} {x y a b : Int}
theorem copyM_yes (h : waxP s a b) : copyM o x y s a b = { o with wet := u2 o.wet y.toNat x.toNat (s.wet b.toNat a.toNat), dye := u2 o.dye y.toNat x.toNat (s.dye b.toNat a.toNat), wax := u1 o.wax y.toNat (onU (o.wax y.toNat) x) } := by unfold copyM; rw [if_pos h]
theorem copyM_no (h : ¬ waxP s a b) : copyM o x y s a b = { o with wet := u2 o.wet y.toNat x.toNat (s.wet b.toNat a.toNat), dye := u2 o.dye y.toNat x.toNat (s.dye b.toNat a.toNat) } := by unfold copyM; rw [if_neg h]
end
/-- The sheet of some sides whose first cells are taken from another one. -/
def movedTo (s : SheetM) (w h : Int) (fx fy : Int → Int → Int) : Nat → SheetM
  | 0 => ⟨w, h, fun _ _ => 0, fun _ _ _ => 0, fun _ => 0⟩
  | n + 1 => copyM (movedTo s w h fx fy n) (n % w.toNat : Nat) (n / w.toNat : Nat) s (fx (n % w.toNat : Nat) (n / w.toNat : Nat)) (fy (n % w.toNat : Nat) (n / w.toNat : Nat))
section
variable {s : SheetM} {w h : Int} {fx fy : Int → Int → Int} {n : Nat}
theorem movedTo_zero : movedTo s w h fx fy 0 = ⟨w, h, fun _ _ => 0, fun _ _ _ => 0, fun _ => 0⟩ := rfl
theorem movedTo_succ : movedTo s w h fx fy (n + 1) = copyM (movedTo s w h fx fy n) (n % w.toNat : Nat) (n / w.toNat : Nat) s (fx (n % w.toNat : Nat) (n / w.toNat : Nat)) (fy (n % w.toNat : Nat) (n / w.toNat : Nat)) := rfl
theorem movedTo_w : (movedTo s w h fx fy n).w = w := by
  induction n with
  | zero => rfl
  | succ n ih => rw [movedTo_succ]; exact ih
theorem movedTo_h : (movedTo s w h fx fy n).h = h := by
  induction n with
  | zero => rfl
  | succ n ih => rw [movedTo_succ]; exact ih
end
abbrev movedM (s : SheetM) (w h : Int) (fx fy : Int → Int → Int) : SheetM := movedTo s w h fx fy (w.toNat * h.toNat)
/-- Two ways to take cells that agree on the cells that are there. -/
theorem movedTo_ext {s : SheetM} {w h : Int} {fx fy gx gy : Int → Int → Int} {n : Nat} (hn : n ≤ w.toNat * h.toNat) (he : ∀ x y : Nat, x < w.toNat → y < h.toNat → fx x y = gx x y ∧ fy x y = gy x y) : movedTo s w h fx fy n = movedTo s w h gx gy n := by
  induction n with
  | zero => rfl
  | succ n ih =>
    have hc := cell_in (w := w.toNat) (h := h.toNat) (n := n) (by omega)
    have := he _ _ hc.1 hc.2
    rw [movedTo_succ, movedTo_succ, ih (by omega), this.1, this.2]
theorem s_natlt {a b : Nat} {x : Int} (h : x = (b : Int)) (ha : a < x.toNat) : (a : Int) < b := by omega
/-- A sheet, if a sheet is valid. -/
noncomputable def okS (s m : SheetM) : SheetM := if validS s then m else zeroSheet
noncomputable def okV (s m : SheetM) : AV := .tup [.agg shSheet (sheetD (okS s m)), .int .i64 (okC s)]
theorem okV_ok {s m} (h : validS s) : okV s m = .tup [.agg shSheet (sheetD m), .int .i64 0] := by simp [okV, okS, okC, h]
theorem okV_bad {s m} (h : ¬ validS s) : okV s m = .tup [.agg shSheet (sheetD zeroSheet), .int .i64 1] := by simp [okV, okS, okC, h]
abbrev mirX (s : SheetM) : Int → Int → Int := fun x _ => s.w - 1 - x
abbrev sameY : Int → Int → Int := fun _ y => y
abbrev sameX : Int → Int → Int := fun x _ => x
abbrev turnY (s : SheetM) : Int → Int → Int := fun x _ => s.h - 1 - x
abbrev addX (a : Int) : Int → Int → Int := fun x _ => x + a
abbrev addY (b : Int) : Int → Int → Int := fun _ y => y + b
end Ink
