/- Contracts of functions of the program, by the texts that it imports. No conditions. -/
import Derived.Test.YtlfhpibbmgjgnaaInkGj
set_option linter.unusedVariables false
set_option linter.unusedSimpArgs false
/- Pictures: what they mean, how they come from outside. No conditions. -/
namespace Ink
open Go Go.ChangeShapes Go.WideShapes Go.RowKit

structure PicM where
  w : Int
  h : Int
  cells : Nat → Nat → Int
structure PicM.Ok (p : PicM) : Prop where
  w : -128 ≤ p.w ∧ p.w < 128
  h : -128 ≤ p.h ∧ p.h < 128
  cells : ∀ i j, 0 ≤ p.cells i j ∧ p.cells i j < 256
def picD (p : PicM) : DV := .cons (.int .i8 p.w) (.cons (.int .i8 p.h) (.cons (a2 .u8 p.cells) .unit))
def nP (p : PicM) : PicM := ⟨p.w, p.h, n88 p.cells⟩
section
variable {p : PicM} {q : List Nat} {v : Int} {g : Nat → Nat → Int} {u : DV}
theorem pic_fld0 : shPic.fldS 0 = some (.int .i8) := rfl
theorem pic_fld1 : shPic.fldS 1 = some (.int .i8) := rfl
theorem pic_fld2 : shPic.fldS 2 = some (.arr 8 (.arr 8 (.int .u8))) := rfl
theorem pic_fl0 : shPic.fld 0 = some (.int .i8) := rfl
theorem pic_fl1 : shPic.fld 1 = some (.int .i8) := rfl
theorem pic_fl2 : shPic.fld 2 = some (.arr 8 (.arr 8 (.int .u8))) := rfl
theorem pic_of : ofD shPic u = .agg shPic u := rfl
theorem pic_agg : shPic.agg = true := rfl
theorem pic_zero : shPic.zero = picD ⟨0, 0, fun _ _ => 0⟩ := rfl
theorem pic_get0 : (picD p).get [0] = .int .i8 p.w := by simp only [picD, DV.get]
theorem pic_get1 : (picD p).get [1] = .int .i8 p.h := by simp only [picD, DV.get]
theorem pic_get2 : (picD p).get (2 :: q) = (a2 .u8 p.cells).get q := by simp only [picD, DV.get]
theorem pic_set0 : (picD p).set [0] (.int .i8 v) = picD { p with w := v } := by simp only [picD, DV.set, z09]
theorem pic_set1 : (picD p).set [1] (.int .i8 v) = picD { p with h := v } := by simp only [picD, DV.set, z09]
theorem pic_set2 : (picD p).set [2] (a2 .u8 g) = picD { p with cells := g } := by simp only [picD, DV.set, z09]
end
theorem nP_Ok {p : PicM} (h : p.Ok) : (nP p).Ok := by
  refine ⟨h.w, h.h, fun i j => ?_⟩
  have e : n88 p.cells i j = if i < 8 then n8 (p.cells i) j else 0 := by unfold n88 upTo; split <;> rfl
  show 0 ≤ n88 p.cells i j ∧ n88 p.cells i j < 256
  rw [e]; split
  · exact upTo_P (p := fun x => 0 ≤ x ∧ x < 256) (h.cells i) (by omega) j
  · omega
theorem pic_Has {p : PicM} : Has shPic (picD p) := ⟨rfl, rfl, fun _ _ => fun _ _ => rfl, trivial⟩

def shownOk (p : PicM) (x y : Nat) : Prop := p.cells y x ≤ 3 ∧ (0 < p.cells y x → (x : Int) < p.w ∧ (y : Int) < p.h)
def validP (p : PicM) : Prop := (1 ≤ p.w ∧ p.w ≤ 8) ∧ (1 ≤ p.h ∧ p.h ≤ 8) ∧ ∀ y < 8, ∀ x < 8, shownOk p x y
noncomputable instance {p : PicM} : Decidable (validP p) := Classical.propDecidable _
noncomputable instance {p : PicM} {x y : Nat} : Decidable (shownOk p x y) := Classical.propDecidable _
def isP (p : PicM) (x y : Int) : Prop := (0 ≤ x ∧ x ≤ p.w - 1) ∧ (0 ≤ y ∧ y ≤ p.h - 1)
instance {p : PicM} {x y : Int} : Decidable (isP p x y) := by unfold isP; infer_instance
def picL (p : PicM) (y x : Nat) : ByteArray := pixT (p.cells y x - 1)
theorem picL_size {p : PicM} (y x : Nat) : (picL p y x).size = 1 := rfl
def picTM (p : PicM) : ByteArray := textT p.w.toNat (picL p) p.h.toNat
theorem dot_get {k : Int} (h0 : 0 ≤ k) (h1 : k ≤ 3) : (⟨#[46, 97, 98, 99]⟩ : ByteArray)[k.toNat]? = some (pixB (k - 1)) := by
  obtain rfl | rfl | rfl | rfl : k = 0 ∨ k = 1 ∨ k = 2 ∨ k = 3 := by omega
  all_goals rfl
theorem dot_ext {k : Int} (h0 : 0 ≤ k) (h1 : k ≤ 3) : (⟨#[46, 97, 98, 99]⟩ : ByteArray).extract k.toNat (k + 1).toNat = pixT (k - 1) := by
  obtain rfl | rfl | rfl | rfl : k = 0 ∨ k = 1 ∨ k = 2 ∨ k = 3 := by omega
  all_goals rfl

abbrev lPic : List TypeDesc := [.int .i8, .int .i8] ++ List.replicate 64 (.int .u8)
theorem open_pic {P : Program} {w : World} {r : Reach} {base : Nat} {t : TypeId} {v : Value} (hu : isRow (P.underlying t) = true) (hc : P.cellsOf t = 66) (hL0 : ((P.cellTypes P.depth t).map fun ts => ts.map P.underlying) = some (lPic.map some))
    (hval : Value.okWide P w r base t v) : ∃ p : PicM, p.Ok ∧ v = .agg (flat shPic (picD p)).toArray := by
  obtain ⟨g, b, rfl, h⟩ := open_row (L := lPic) hu hc hL0 rfl hval
  refine ⟨⟨g 0, g 1, fun y x => if y < 8 ∧ x < 8 then g (2 + (8 * y + x)) else 0⟩, ⟨wf8 (h 0 .i8 rfl), wf8 (h 1 .i8 rfl), fun y x => ?_⟩, ?_⟩
  · show 0 ≤ (if y < 8 ∧ x < 8 then g (2 + (8 * y + x)) else 0) ∧ (if y < 8 ∧ x < 8 then g (2 + (8 * y + x)) else 0) < 256
    split
    · refine wfu8 (h (2 + (8 * y + x)) .u8 ?_)
      show ([TypeDesc.int .i8, TypeDesc.int .i8] ++ List.replicate 64 (TypeDesc.int .u8))[2 + (8 * y + x)]? = _
      rw [List.getElem?_append_right (Nat.le_add_right 2 _), List.getElem?_replicate, if_pos]
      show 2 + (8 * y + x) - 2 < 64
      omega
    · omega
  · rfl
end Ink
