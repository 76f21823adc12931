/- What the program means: waxing and dropping. No conditions. -/
import Derived.Test.YtdooejjnjfgnjaaInk21
set_option linter.unusedVariables false
set_option linter.unusedSimpArgs false
namespace Ink
open Go
theorem acall_goW {P : Program} {n : Nat} {W W' : List Nat} {f : FuncId} {args : List AV} {H H' : Heap} {v : AV} {K : AV → Heap → Prop} (h : ACall P W' f args H v H') (hW : ∀ i ∈ W', may n W i) (hk : force v fun v => force H' fun H' => K v H') : acall P n W f args H K :=
  acall_of h hW hk
/-- A writer of one block that holds no pointer, at any heap. -/
theorem ACall.at1w {P : Program} {f : FuncId} {args : List AV} {v : AV} {B B' : Blk} (h : ACall P [0] f args [B] v [B']) (hB : noRef B = true) (hB' : noRef B' = true) (hw : B.wr = true) (hw' : B'.wr = true) {H : Heap} {b : Nat} (hb : H[b]? = some B) {args' : List AV} (hs : inScopes 1 args) (ha : rens (kap [b] 1 H.length) args = args') (hv : plain v = true) :
    ACall P [b] f args' H v (H.set b B') := by
  subst ha
  have hr : ∀ κ, renB κ B = B := fun κ => by cases B <;> first | rfl | simp [noRef] at hB
  have hr' : ∀ κ, renB κ B' = B' := fun κ => by cases B' <;> first | rfl | simp [noRef] at hB'
  have hl : B.lv = true := by cases B <;> first | rfl | simp [noRef] at hB
  have hsc : inScopeB 1 B := by cases B <;> first | trivial | simp [noRef] at hB
  have h2 := plain_ren (σ := kap [b] 1 H.length) (m := 0) hv
  have := ACall.frame1 h hb hr hr' hs hsc (fun i hi => by simpa using hi) (Or.inr hw) hl (by rw [hw, hw'])
  rw [h2.1] at this
  simpa using this
def waxOff (s : SheetM) (x y : Int) : SheetM := { s with wax := u1 s.wax y.toNat (offU (s.wax y.toNat) x) }
def waxOn (s : SheetM) (x y : Int) : SheetM := { s with wax := u1 s.wax y.toNat (onU (s.wax y.toNat) x) }
def waxTo (s : SheetM) (x y : Int) (on : Bool) : SheetM := if on then waxOn (waxOff s x y) x y else waxOff s x y
noncomputable def waxC (s : SheetM) (x y : Int) : Int := if askM s x y true = 0 then (if wetM s x y = 0 ∧ darkM s x y = 0 then 0 else 4) else askM s x y true
noncomputable def waxR (s : SheetM) (x y : Int) (on : Bool) : SheetM := if waxC s x y = 0 then waxTo s x y on else zeroSheet
noncomputable def waxV (s : SheetM) (x y : Int) (on : Bool) : AV := .tup [.agg shSheet (sheetD (waxR s x y on)), .int .i64 (waxC s x y)]
theorem waxV_code {s x y on} {c : Int} (e : askM s x y true = c) (hc : c ≠ 0) : waxV s x y on = .tup [.agg shSheet (sheetD zeroSheet), .int .i64 c] := by
  have : waxC s x y = c := by simp [waxC, e, hc]
  simp [waxV, waxR, this, hc]
theorem waxV_state {s x y on} (e : askM s x y true = 0) (h : ¬ (wetM s x y = 0 ∧ darkM s x y = 0)) : waxV s x y on = .tup [.agg shSheet (sheetD zeroSheet), .int .i64 4] := by
  have : waxC s x y = 4 := by simp only [waxC, e, h, if_true, if_false]
  simp [waxV, waxR, this]
theorem waxV_ok {s x y on} (e : askM s x y true = 0) (h : wetM s x y = 0 ∧ darkM s x y = 0) : waxV s x y on = .tup [.agg shSheet (sheetD (waxTo s x y on)), .int .i64 0] := by
  have : waxC s x y = 0 := by simp only [waxC, e, h, if_true, and_self]
  simp [waxV, waxR, this]
/-- A cell of a valid sheet. -/
theorem cell_bd {s : SheetM} {x y : Int} (hv : validS s) (hh : hasP s x y) : (0 ≤ wetM s x y ∧ wetM s x y ≤ 200) ∧ (∀ k < 3, 0 ≤ s.dye y.toNat x.toNat k ∧ s.dye y.toNat x.toNat k ≤ 1000) := by
  have h8 := ask_in8 hv hh
  have h := (hv.2.2 y.toNat (by omega) x.toNat (by omega)).2
  unfold cellP wetM at h
  unfold wetM
  simp only [Int.toNat_natCast] at h
  exact ⟨h.1, h.2.1⟩
theorem dark_nn {s : SheetM} {x y : Int} (hv : validS s) (hh : hasP s x y) : 0 ≤ darkM s x y := by
  have := (cell_bd hv hh).2
  have h0 := this 0 (by omega)
  have h1 := this 1 (by omega)
  have h2 := this 2 (by omega)
  unfold darkM; omega
def inkP (k : Int) : Prop := 0 ≤ k ∧ k ≤ 2
instance {k} : Decidable (inkP k) := by unfold inkP; infer_instance
def dropP (k a w : Int) : Prop := (0 ≤ k ∧ k ≤ 2) ∧ (0 ≤ a ∧ a ≤ 1000) ∧ 0 ≤ w ∧ w ≤ 200
instance {k a w} : Decidable (dropP k a w) := by unfold dropP; infer_instance
noncomputable def dropK (s : SheetM) (x y k a w : Int) : Int := if waxP s x y then 4 else if 200 < s.wet y.toNat x.toNat + w ∨ 1000 < s.dye y.toNat x.toNat k.toNat + a then 3 else 0
def dropM (s : SheetM) (x y k a w : Int) : SheetM := { s with wet := u2 s.wet y.toNat x.toNat (s.wet y.toNat x.toNat + w), dye := u3 s.dye y.toNat x.toNat k.toNat (s.dye y.toNat x.toNat k.toNat + a) }
noncomputable def dropT (s : SheetM) (x y k a w : Int) : SheetM := if dropK s x y k a w = 0 then dropM s x y k a w else s
noncomputable def dropC (s : SheetM) (x y k a w : Int) : Int := if askM s x y (decide (dropP k a w)) = 0 then dropK s x y k a w else askM s x y (decide (dropP k a w))
noncomputable def dropR (s : SheetM) (x y k a w : Int) : SheetM := if dropC s x y k a w = 0 then dropM s x y k a w else zeroSheet
noncomputable def dropV (s : SheetM) (x y k a w : Int) : AV := .tup [.agg shSheet (sheetD (dropR s x y k a w)), .int .i64 (dropC s x y k a w)]
section
variable {s : SheetM} {x y k a w c : Int}
theorem dropK_wax (h : waxP s x y) : dropK s x y k a w = 4 := by simp [dropK, h]
theorem dropK_lim (h : ¬ waxP s x y) (h2 : 200 < s.wet y.toNat x.toNat + w ∨ 1000 < s.dye y.toNat x.toNat k.toNat + a) : dropK s x y k a w = 3 := by simp only [dropK, h, h2, if_true, if_false]
theorem dropK_ok (h : ¬ waxP s x y) (h2 : ¬ (200 < s.wet y.toNat x.toNat + w ∨ 1000 < s.dye y.toNat x.toNat k.toNat + a)) : dropK s x y k a w = 0 := by simp only [dropK, h, h2, if_false]
theorem dropT_no (h : dropK s x y k a w = c) (hc : c ≠ 0) : dropT s x y k a w = s := by unfold dropT; rw [h, if_neg hc]
theorem dropT_ok (h : dropK s x y k a w = 0) : dropT s x y k a w = dropM s x y k a w := by unfold dropT; rw [if_pos h]
theorem dropV_code (e : askM s x y (decide (dropP k a w)) = c) (hc : c ≠ 0) : dropV s x y k a w = .tup [.agg shSheet (sheetD zeroSheet), .int .i64 c] := by
  have : dropC s x y k a w = c := by simp only [dropC, e, hc, if_false]
  simp [dropV, dropR, this, hc]
theorem dropV_k (e : askM s x y (decide (dropP k a w)) = 0) (h : dropK s x y k a w = c) (hc : c ≠ 0) : dropV s x y k a w = .tup [.agg shSheet (sheetD zeroSheet), .int .i64 c] := by
  have : dropC s x y k a w = c := by simp only [dropC, e, h, if_true]
  simp [dropV, dropR, this, hc]
theorem dropV_ok (e : askM s x y (decide (dropP k a w)) = 0) (h : dropK s x y k a w = 0) : dropV s x y k a w = .tup [.agg shSheet (sheetD (dropM s x y k a w)), .int .i64 0] := by
  have : dropC s x y k a w = 0 := by simp only [dropC, e, h, if_true]
  simp [dropV, dropR, this]
end
end Ink
