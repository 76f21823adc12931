/- Contracts of functions of the program, by the texts that it imports. No conditions. -/
import Derived.Test.YtlfhpibbmgjgnaaInkGe
set_option linter.unusedVariables false
set_option linter.unusedSimpArgs false
/- What the program means: waxing and dropping. No conditions. -/
namespace Ink
open Go
theorem acall_goW {P : Program} {n : Nat} {W W' : List Nat} {f : FuncId} {args : List AV} {H H' : Heap} {v : AV} {K : AV → Heap → Prop} (h : ACall P W' f args H v H') (hW : ∀ i ∈ W', may n W i) (hk : force v fun v => force H' fun H' => K v H') : acall P n W f args H K :=
  acall_of h hW hk
/-- A writer of one block that holds no pointer, at any heap. -/
theorem ACall.at1w {P : Program} {f : FuncId} {args : List AV} {v : AV} {B B' : Blk} (h : ACall P [0] f args [B] v [B']) (hB : noRef B = true) (hB' : noRef B' = true) (hw : B.wr = true) (hw' : B'.wr = true) {H : Heap} {b : Nat} (hb : H[b]? = some B) {args' : List AV} (hs : inScopes 1 args) (ha : rens (kap [b] 1 H.length) args = args') (hv : plain v = true) :
    ACall P [b] f args' H v (H.set b B') := by
  subst ha
  have hr : ∀ κ, renB κ B = B := fun κ => by cases B <;> first | rfl | simp [noRef] at hB
  have hr' : ∀ κ, renB κ B' = B' := fun κ => by cases B' <;> first | rfl | simp [noRef] at hB'
  have hl : B.lv = true := by cases B <;> first | rfl | simp [noRef] at hB
  have hsc : inScopeB 1 B := by cases B <;> first | trivial | simp [noRef] at hB
  have h2 := plain_ren (σ := kap [b] 1 H.length) (m := 0) hv
  have := ACall.frame1 h hb hr hr' hs hsc (fun i hi => by simpa using hi) (Or.inr hw) hl (by rw [hw, hw'])
  rw [h2.1] at this
  simpa using this
def waxOff (s : SheetM) (x y : Int) : SheetM := { s with wax := u1 s.wax y.toNat (offU (s.wax y.toNat) x) }
def waxOn (s : SheetM) (x y : Int) : SheetM := { s with wax := u1 s.wax y.toNat (onU (s.wax y.toNat) x) }
def waxTo (s : SheetM) (x y : Int) (on : Bool) : SheetM := if on then waxOn (waxOff s x y) x y else waxOff s x y
noncomputable def waxC (s : SheetM) (x y : Int) : Int := if askM s x y true = 0 then (if wetM s x y = 0 ∧ darkM s x y = 0 then 0 else 4) else askM s x y true
noncomputable def waxR (s : SheetM) (x y : Int) (on : Bool) : SheetM := if waxC s x y = 0 then waxTo s x y on else zeroSheet
noncomputable def waxV (s : SheetM) (x y : Int) (on : Bool) : AV := .tup [.agg shSheet (sheetD (waxR s x y on)), .int .i64 (waxC s x y)]
theorem waxV_code {s x y on} {c : Int} (e : askM s x y true = c) (hc : c ≠ 0) : waxV s x y on = .tup [.agg shSheet (sheetD zeroSheet), .int .i64 c] := by
  have : waxC s x y = c := by simp [waxC, e, hc]
  simp [waxV, waxR, this, hc]
theorem waxV_state {s x y on} (e : askM s x y true = 0) (h : ¬ (wetM s x y = 0 ∧ darkM s x y = 0)) : waxV s x y on = .tup [.agg shSheet (sheetD zeroSheet), .int .i64 4] := by
  have : waxC s x y = 4 := by simp only [waxC, e, h, if_true, if_false]
  simp [waxV, waxR, this]
theorem waxV_ok {s x y on} (e : askM s x y true = 0) (h : wetM s x y = 0 ∧ darkM s x y = 0) : waxV s x y on = .tup [.agg shSheet (sheetD (waxTo s x y on)), .int .i64 0] := by
  have : waxC s x y = 0 := by simp only [waxC, e, h, if_true, and_self]
  simp [waxV, waxR, this]
/-- A cell of a valid sheet. -/
theorem cell_bd {s : SheetM} {x y : Int} (hv : validS s) (hh : hasP s x y) : (0 ≤ wetM s x y ∧ wetM s x y ≤ 200) ∧ (∀ k < 3, 0 ≤ s.dye y.toNat x.toNat k ∧ s.dye y.toNat x.toNat k ≤ 1000) := by
  have h8 := ask_in8 hv hh
  have h := (hv.2.2 y.toNat (by omega) x.toNat (by omega)).2
  unfold cellP wetM at h
  unfold wetM
  simp only [Int.toNat_natCast] at h
  exact ⟨h.1, h.2.1⟩
theorem dark_nn {s : SheetM} {x y : Int} (hv : validS s) (hh : hasP s x y) : 0 ≤ darkM s x y := by
  have := (cell_bd hv hh).2
  have h0 := this 0 (by omega)
  have h1 := this 1 (by omega)
  have h2 := this 2 (by omega)
  unfold darkM; omega
def inkP (k : Int) : Prop := 0 ≤ k ∧ k ≤ 2
instance {k} : Decidable (inkP k) := by unfold inkP; infer_instance
def dropP (k a w : Int) : Prop := (0 ≤ k ∧ k ≤ 2) ∧ (0 ≤ a ∧ a ≤ 1000) ∧ 0 ≤ w ∧ w ≤ 200
instance {k a w} : Decidable (dropP k a w) := by unfold dropP; infer_instance
noncomputable def dropK (s : SheetM) (x y k a w : Int) : Int := if waxP s x y then 4 else if 200 < s.wet y.toNat x.toNat + w ∨ 1000 < s.dye y.toNat x.toNat k.toNat + a then 3 else 0
def dropM (s : SheetM) (x y k a w : Int) : SheetM := { s with wet := u2 s.wet y.toNat x.toNat (s.wet y.toNat x.toNat + w), dye := u3 s.dye y.toNat x.toNat k.toNat (s.dye y.toNat x.toNat k.toNat + a) }
noncomputable def dropT (s : SheetM) (x y k a w : Int) : SheetM := if dropK s x y k a w = 0 then dropM s x y k a w else s
noncomputable def dropC (s : SheetM) (x y k a w : Int) : Int := if askM s x y (decide (dropP k a w)) = 0 then dropK s x y k a w else askM s x y (decide (dropP k a w))
noncomputable def dropR (s : SheetM) (x y k a w : Int) : SheetM := if dropC s x y k a w = 0 then dropM s x y k a w else zeroSheet
noncomputable def dropV (s : SheetM) (x y k a w : Int) : AV := .tup [.agg shSheet (sheetD (dropR s x y k a w)), .int .i64 (dropC s x y k a w)]
section
variable {s : SheetM} {x y k a w c : Int}
theorem dropK_wax (h : waxP s x y) : dropK s x y k a w = 4 := by simp [dropK, h]
theorem dropK_lim (h : ¬ waxP s x y) (h2 : 200 < s.wet y.toNat x.toNat + w ∨ 1000 < s.dye y.toNat x.toNat k.toNat + a) : dropK s x y k a w = 3 := by simp only [dropK, h, h2, if_true, if_false]
theorem dropK_ok (h : ¬ waxP s x y) (h2 : ¬ (200 < s.wet y.toNat x.toNat + w ∨ 1000 < s.dye y.toNat x.toNat k.toNat + a)) : dropK s x y k a w = 0 := by simp only [dropK, h, h2, if_false]
theorem dropT_no (h : dropK s x y k a w = c) (hc : c ≠ 0) : dropT s x y k a w = s := by unfold dropT; rw [h, if_neg hc]
theorem dropT_ok (h : dropK s x y k a w = 0) : dropT s x y k a w = dropM s x y k a w := by unfold dropT; rw [if_pos h]
theorem dropV_code (e : askM s x y (decide (dropP k a w)) = c) (hc : c ≠ 0) : dropV s x y k a w = .tup [.agg shSheet (sheetD zeroSheet), .int .i64 c] := by
  have : dropC s x y k a w = c := by simp only [dropC, e, hc, if_false]
  simp [dropV, dropR, this, hc]
theorem dropV_k (e : askM s x y (decide (dropP k a w)) = 0) (h : dropK s x y k a w = c) (hc : c ≠ 0) : dropV s x y k a w = .tup [.agg shSheet (sheetD zeroSheet), .int .i64 c] := by
  have : dropC s x y k a w = c := by simp only [dropC, e, h, if_true]
  simp [dropV, dropR, this, hc]
theorem dropV_ok (e : askM s x y (decide (dropP k a w)) = 0) (h : dropK s x y k a w = 0) : dropV s x y k a w = .tup [.agg shSheet (sheetD (dropM s x y k a w)), .int .i64 0] := by
  have : dropC s x y k a w = 0 := by simp only [dropC, e, h, if_true]
  simp [dropV, dropR, this]
end
end Ink
/- What the program means: sheets whose cells are taken from another one; writers that read a second block. No conditions. -/
namespace Ink
open Go
/-- A writer of one block that reads another, at any heap. -/
theorem ACall.at2w {P : Program} {f : FuncId} {args : List AV} {v : AV} {B B' C : Blk} (h : ACall P [0] f args [B, C] v [B', C]) (hB : noRef B = true) (hB' : noRef B' = true) (hC : noRef C = true) (hw : B.wr = true) (hw' : B'.wr = true) {H : Heap} {b c : Nat} (hb : H[b]? = some B) (hc : H[c]? = some C) (hne : b ≠ c) {args' : List AV} (hs : inScopes 2 args) (ha : rens (kap [b, c] 2 H.length) args = args') (hv : plain v = true) :
    ACall P [b] f args' H v (H.set b B') := by
  subst ha
  have hr : ∀ (B : Blk), noRef B = true → ∀ κ, renB κ B = B := fun B hB κ => by cases B <;> first | rfl | simp [noRef] at hB
  have hl : ∀ (B : Blk), noRef B = true → B.lv = true := fun B hB => by cases B <;> first | rfl | simp [noRef] at hB
  have hsc : ∀ (B : Blk), noRef B = true → ∀ n, inScopeB n B := fun B hB n => by cases B <;> first | trivial | simp [noRef] at hB
  have h2 := plain_ren (σ := kap [b, c] 2 H.length) (m := 0) hv
  have := ACall.frame (Hm := [B, C]) (Hm' := [B', C]) (N := []) h rfl (H := H) [b, c] rfl (by simp [hne]) (fun i D hi => by
    match i with
    | 0 => simp at hi; subst hi; simp [hr _ hB, hb]
    | 1 => simp at hi; subst hi; simp [hr _ hC, hc]
    | i + 2 => simp at hi) hs (fun D hD => by
      simp at hD
      rcases hD with rfl | rfl
      · exact hsc _ hB _
      · exact hsc _ hC _) (fun i hi => by
    simp at hi
    subst hi
    refine ⟨by simp, fun D hD => ?_⟩
    simp at hD
    subst hD
    exact hw) (fun D hD => by
      simp at hD
      rcases hD with rfl | rfl
      · exact hl _ hB
      · exact hl _ hC) (by simp [hw, hw'])
  simp only [setAll, hr _ hB', hr _ hC, List.length_cons, List.length_nil, Nat.zero_add] at this
  have e0 : kap [b, c] (1 + 1) H.length 0 = b := by simp [kap]
  have e1 : kap [b, c] (1 + 1) H.length 1 = c := by simp [kap]
  rw [e0, e1, h2.1, set_same (H := H.set b B') (by rw [List.getElem?_set_ne hne]; exact hc)] at this
  simpa using this
section
variable {o s : SheetM} {x y a b : Int}
theorem copyM_yes (h : waxP s a b) : copyM o x y s a b = { o with wet := u2 o.wet y.toNat x.toNat (s.wet b.toNat a.toNat), dye := u2 o.dye y.toNat x.toNat (s.dye b.toNat a.toNat), wax := u1 o.wax y.toNat (onU (o.wax y.toNat) x) } := by unfold copyM; rw [if_pos h]
theorem copyM_no (h : ¬ waxP s a b) : copyM o x y s a b = { o with wet := u2 o.wet y.toNat x.toNat (s.wet b.toNat a.toNat), dye := u2 o.dye y.toNat x.toNat (s.dye b.toNat a.toNat) } := by unfold copyM; rw [if_neg h]
end
/-- The sheet of some sides whose first cells are taken from another one. -/
def movedTo (s : SheetM) (w h : Int) (fx fy : Int → Int → Int) : Nat → SheetM
  | 0 => ⟨w, h, fun _ _ => 0, fun _ _ _ => 0, fun _ => 0⟩
  | n + 1 => copyM (movedTo s w h fx fy n) (n % w.toNat : Nat) (n / w.toNat : Nat) s (fx (n % w.toNat : Nat) (n / w.toNat : Nat)) (fy (n % w.toNat : Nat) (n / w.toNat : Nat))
section
variable {s : SheetM} {w h : Int} {fx fy : Int → Int → Int} {n : Nat}
theorem movedTo_zero : movedTo s w h fx fy 0 = ⟨w, h, fun _ _ => 0, fun _ _ _ => 0, fun _ => 0⟩ := rfl
theorem movedTo_succ : movedTo s w h fx fy (n + 1) = copyM (movedTo s w h fx fy n) (n % w.toNat : Nat) (n / w.toNat : Nat) s (fx (n % w.toNat : Nat) (n / w.toNat : Nat)) (fy (n % w.toNat : Nat) (n / w.toNat : Nat)) := rfl
theorem movedTo_w : (movedTo s w h fx fy n).w = w := by
  induction n with
  | zero => rfl
  | succ n ih => rw [movedTo_succ]; exact ih
theorem movedTo_h : (movedTo s w h fx fy n).h = h := by
  induction n with
  | zero => rfl
  | succ n ih => rw [movedTo_succ]; exact ih
end
abbrev movedM (s : SheetM) (w h : Int) (fx fy : Int → Int → Int) : SheetM := movedTo s w h fx fy (w.toNat * h.toNat)
/-- Two ways to take cells that agree on the cells that are there. -/
theorem movedTo_ext {s : SheetM} {w h : Int} {fx fy gx gy : Int → Int → Int} {n : Nat} (hn : n ≤ w.toNat * h.toNat) (he : ∀ x y : Nat, x < w.toNat → y < h.toNat → fx x y = gx x y ∧ fy x y = gy x y) : movedTo s w h fx fy n = movedTo s w h gx gy n := by
  induction n with
  | zero => rfl
  | succ n ih =>
    have hc := cell_in (w := w.toNat) (h := h.toNat) (n := n) (by omega)
    have := he _ _ hc.1 hc.2
    rw [movedTo_succ, movedTo_succ, ih (by omega), this.1, this.2]
theorem zno {a b : Nat} {x : Int} (h : x = (b : Int)) (ha : a < x.toNat) : (a : Int) < b := by omega
/-- A sheet, if a sheet is valid. -/
noncomputable def okS (s m : SheetM) : SheetM := if validS s then m else zeroSheet
noncomputable def okV (s m : SheetM) : AV := .tup [.agg shSheet (sheetD (okS s m)), .int .i64 (okC s)]
theorem okV_ok {s m} (h : validS s) : okV s m = .tup [.agg shSheet (sheetD m), .int .i64 0] := by simp [okV, okS, okC, h]
theorem okV_bad {s m} (h : ¬ validS s) : okV s m = .tup [.agg shSheet (sheetD zeroSheet), .int .i64 1] := by simp [okV, okS, okC, h]
abbrev mirX (s : SheetM) : Int → Int → Int := fun x _ => s.w - 1 - x
abbrev sameY : Int → Int → Int := fun _ y => y
abbrev sameX : Int → Int → Int := fun x _ => x
abbrev turnY (s : SheetM) : Int → Int → Int := fun x _ => s.h - 1 - x
abbrev addX (a : Int) : Int → Int → Int := fun x _ => x + a
abbrev addY (b : Int) : Int → Int → Int := fun _ y => y + b
end Ink
/- What the program means: cutting, and folds. No conditions. -/
namespace Ink
open Go
/-- A reader of two blocks, at any heap. -/
theorem ACall.at2 {P : Program} {f : FuncId} {args : List AV} {v : AV} {B C : Blk} (h : ACall P [] f args [B, C] v [B, C]) (hB : noRef B = true) (hC : noRef C = true) {H : Heap} {b c : Nat} (hb : H[b]? = some B) (hc : H[c]? = some C) (hne : b ≠ c) {args' : List AV} (hs : inScopes 2 args) (ha : rens (kap [b, c] 2 H.length) args = args') (hv : plain v = true) :
    ACall P [] f args' H v H := by
  subst ha
  have hr : ∀ (B : Blk), noRef B = true → ∀ κ, renB κ B = B := fun B hB κ => by cases B <;> first | rfl | simp [noRef] at hB
  have hl : ∀ (B : Blk), noRef B = true → B.lv = true := fun B hB => by cases B <;> first | rfl | simp [noRef] at hB
  have hsc : ∀ (B : Blk), noRef B = true → ∀ n, inScopeB n B := fun B hB n => by cases B <;> first | trivial | simp [noRef] at hB
  have h2 := plain_ren (σ := kap [b, c] 2 H.length) (m := 0) hv
  have := ACall.frame (Hm := [B, C]) (Hm' := [B, C]) (N := []) h rfl (H := H) [b, c] rfl (by simp [hne]) (fun i D hi => by
    match i with
    | 0 => simp at hi; subst hi; simp [hr _ hB, hb]
    | 1 => simp at hi; subst hi; simp [hr _ hC, hc]
    | i + 2 => simp at hi) hs (fun D hD => by
      simp at hD
      rcases hD with rfl | rfl
      · exact hsc _ hB _
      · exact hsc _ hC _) (fun i hi => by simp at hi) (fun D hD => by
      simp at hD
      rcases hD with rfl | rfl
      · exact hl _ hB
      · exact hl _ hC) (by simp)
  simp only [setAll, hr _ hB, hr _ hC, List.length_cons, List.length_nil, Nat.zero_add] at this
  have e0 : kap [b, c] (1 + 1) H.length 0 = b := by simp [kap]
  have e1 : kap [b, c] (1 + 1) H.length 1 = c := by simp [kap]
  rw [e0, e1, h2.1, set_same hb, set_same hc] at this
  simpa using this
theorem ask_eq {s : SheetM} {x y : Int} {r : Bool} (q : Bool) (h : q = (decide (hasP s x y) && r)) : codeM s q = askM s x y r := by rw [ask_code, h]
/-- A sheet and a code: the sheet if the code is 0. -/
def codeS (c : Int) (m : SheetM) : SheetM := if c = 0 then m else zeroSheet
def codeV (c : Int) (m : SheetM) : AV := .tup [.agg shSheet (sheetD (codeS c m)), .int .i64 c]
theorem codeV_0 {c m} (h : c = 0) : codeV c m = .tup [.agg shSheet (sheetD m), .int .i64 0] := by simp [codeV, codeS, h]
theorem codeV_ne {c m} {d : Int} (h : c = d) (hd : d ≠ 0) : codeV c m = .tup [.agg shSheet (sheetD zeroSheet), .int .i64 d] := by simp [codeV, codeS, h, hd]
def cutP (s : SheetM) (x y w h : Int) : Prop := (1 ≤ w ∧ w ≤ s.w - x) ∧ 1 ≤ h ∧ h ≤ s.h - y
instance {s x y w h} : Decidable (cutP s x y w h) := by unfold cutP; infer_instance
noncomputable def cutC (s : SheetM) (x y w h : Int) : Int := askM s x y (decide (cutP s x y w h))
noncomputable def cutV (s : SheetM) (x y w h : Int) : AV := codeV (cutC s x y w h) (movedM s w h (addX x) (addY y))
theorem cutC_no {s x y w h} (hd : ¬ cutP s x y w h) : cutC s x y w h ≠ 0 := by
  unfold cutC askM
  split
  · rw [if_neg (by simp [hd])]; decide
  · decide
theorem cutC_out {s x y w h} (hd : ¬ hasP s x y) : cutC s x y w h ≠ 0 := by
  unfold cutC askM
  split
  · rw [if_neg (by simp [hd])]; decide
  · decide
/-! Folds -/
def sideM (s : SheetM) (f : FoldM) : Int := if f.down then s.h else s.w
def foldP (s : SheetM) (f : FoldM) : Prop := (1 ≤ f.axis ∧ f.axis ≤ sideM s f - 1) ∧ 1 ≤ f.press ∧ f.press ≤ 8
instance {s f} : Decidable (foldP s f) := by unfold foldP; infer_instance
noncomputable def askF (s : SheetM) (f : FoldM) (r : Bool) : Int := if validS s then (if foldP s f ∧ r = true then 0 else 2) else 1
theorem askF_cases (s : SheetM) (f : FoldM) (r : Bool) : (askF s f r = 0 ∧ validS s ∧ foldP s f ∧ r = true) ∨ askF s f r = 1 ∨ askF s f r = 2 := by
  unfold askF
  by_cases hv : validS s
  · by_cases h : foldP s f ∧ r = true
    · simp [hv, h]
    · simp [hv, h]
  · simp [hv]
theorem askF_code {s f r} : codeM s (decide (foldP s f) && r) = askF s f r := by
  unfold askF codeM
  by_cases hv : validS s
  · by_cases h : foldP s f <;> cases r <;> simp [h, hv]
  · simp [hv]
theorem askF_code' {s f r} : codeM s (decide (validS s ∧ foldP s f) && r) = askF s f r := by
  unfold askF codeM
  by_cases hv : validS s
  · by_cases h : foldP s f <;> cases r <;> simp [h, hv]
  · simp [hv]
def halfW (s : SheetM) (f : FoldM) : Int := if f.down then s.w else f.axis
def halfH (s : SheetM) (f : FoldM) : Int := if f.down then f.axis else s.h
noncomputable def halfV (s : SheetM) (f : FoldM) : AV := codeV (askF s f true) (movedM s (halfW s f) (halfH s f) sameX sameY)
theorem half_cut {s : SheetM} {f : FoldM} (hv : validS s) (hf : foldP s f) : cutV s 0 0 (halfW s f) (halfH s f) = .tup [.agg shSheet (sheetD (movedM s (halfW s f) (halfH s f) sameX sameY)), .int .i64 0] := by
  have hw := hv.1
  have hh := hv.2.1
  have hc : cutC s 0 0 (halfW s f) (halfH s f) = 0 := by
    unfold cutC
    refine ask_ok hv (by unfold hasP; omega) (decide_eq_true ?_)
    unfold foldP sideM at hf
    unfold cutP halfW halfH
    cases hd : f.down <;> simp [hd] at hf ⊢ <;> omega
  unfold cutV
  rw [codeV_0 hc]
  have : movedM s (halfW s f) (halfH s f) (addX 0) (addY 0) = movedM s (halfW s f) (halfH s f) sameX sameY :=
    movedTo_ext (Nat.le_refl _) fun x y _ _ => by simp [addX, addY, sameX, sameY]
  rw [this]
end Ink
/- What the program means: sheets that are filled cell by cell in different orders read alike. No conditions. -/
namespace Ink
open Go
theorem bitU_eq {x : Int} (h : 0 ≤ x ∧ x < 8) : bitU x = ((2 ^ x.toNat : Nat) : Int) := by
  obtain ⟨n, rfl⟩ := Int.eq_ofNat_of_zero_le h.1
  have hn : n < 8 := by omega
  have : 2 ^ n < 2 ^ 8 := Nat.pow_lt_pow_right (by omega) hn
  unfold bitU
  simp only [Int.toNat_natCast, Nat.min_eq_left (Nat.le_of_lt hn), Int.one_mul]
  rw [wrap_u8]
  · simp
  · exact Int.pow_nonneg (by omega)
  · have e : ((2 : Int) ^ n) = ((2 ^ n : Nat) : Int) := by simp
    rw [e]; omega
theorem ofInt8 {a : Int} (h : 0 ≤ a ∧ a < 256) : (BitVec.ofInt 8 a).toNat = a.toNat := by
  rw [BitVec.toNat_ofInt]
  have : a % ((2 ^ 8 : Nat) : Int) = a := Int.emod_eq_of_lt h.1 (by omega)
  rw [this]
theorem onU_eq {a x : Int} (ha : 0 ≤ a ∧ a < 256) (hx : 0 ≤ x ∧ x < 8) : onU a x = ((a.toNat ||| 2 ^ x.toNat : Nat) : Int) ∧ (a.toNat ||| 2 ^ x.toNat) < 256 := by
  have h2 : 2 ^ x.toNat < 2 ^ 8 := Nat.pow_lt_pow_right (by omega) (by omega)
  have hb := bitU_eq hx
  have h3 : 2 ^ x.toNat < 256 := h2
  have hb2 : 0 ≤ bitU x ∧ bitU x < 256 := by rw [hb]; exact ⟨Int.natCast_nonneg _, Int.ofNat_lt.2 h3⟩
  have hlt : (a.toNat ||| 2 ^ x.toNat) < 2 ^ 8 := Nat.or_lt_two_pow (by omega) h2
  refine ⟨?_, by omega⟩
  unfold onU
  rw [BitVec.toNat_or, ofInt8 ha, ofInt8 hb2, hb, Int.toNat_natCast, wrap_u8 (by omega) (by omega)]
theorem onU_bit {a x : Int} (ha : 0 ≤ a ∧ a < 256) (hx : 0 ≤ x ∧ x < 8) (i : Nat) : (onU a x).toNat.testBit i = (a.toNat.testBit i || decide (i = x.toNat)) := by
  rw [(onU_eq ha hx).1, Int.toNat_natCast, Nat.testBit_or, Nat.testBit_two_pow]
  congr 1
  by_cases h : i = x.toNat
  · simp [h]
  · simp [h]
    exact fun e => h e.symm
/-- What is known of a sheet when some of its cells have been taken from another one. -/
structure Filled (s : SheetM) (fx fy : Nat → Nat → Nat) (o : SheetM) (D : Nat → Nat → Prop) : Prop where
  yes : ∀ x y, x < 8 → y < 8 → D x y → o.wet y x = s.wet (fy x y) (fx x y) ∧ o.dye y x = s.dye (fy x y) (fx x y) ∧ ((o.wax y).toNat.testBit x = decide (waxP s (fx x y : Nat) (fy x y : Nat)))
  no : ∀ x y, x < 8 → y < 8 → ¬ D x y → o.wet y x = 0 ∧ o.dye y x = (fun _ => 0) ∧ ((o.wax y).toNat.testBit x = false)
  wax : ∀ y, 0 ≤ o.wax y ∧ o.wax y < 256
theorem Filled.zero {s : SheetM} {fx fy : Nat → Nat → Nat} {w h : Int} : Filled s fx fy ⟨w, h, fun _ _ => 0, fun _ _ _ => 0, fun _ => 0⟩ fun _ _ => False :=
  ⟨fun _ _ _ _ h => h.elim, fun _ _ _ _ _ => ⟨rfl, rfl, by simp⟩, fun _ => by simp⟩
theorem u2_at {α : Type} {f : Nat → Nat → α} {i j i' j' : Nat} {v : α} : u2 f i j v i' j' = if i' = i ∧ j' = j then v else f i' j' := by
  unfold u2 u1
  by_cases h : i' = i
  · subst h
    by_cases h2 : j' = j <;> simp [h2]
  · simp [h]
theorem Filled.copy {s o : SheetM} {fx fy : Nat → Nat → Nat} {D : Nat → Nat → Prop} (h : Filled s fx fy o D) {x y : Nat} (hx : x < 8) (hy : y < 8) (hD : ¬ D x y) : Filled s fx fy (copyM o x y s (fx x y : Nat) (fy x y : Nat)) fun a b => (a = x ∧ b = y) ∨ D a b := by
  have hw := h.wax y
  have hxx : (0 : Int) ≤ x ∧ (x : Int) < 8 := by omega
  have hbit := onU_bit hw hxx
  have hon := onU_eq hw hxx
  have hrow : ∀ b, (copyM o x y s (fx x y : Nat) (fy x y : Nat)).wax b = if b = y ∧ waxP s (fx x y : Nat) (fy x y : Nat) then onU (o.wax y) x else o.wax b := by
    intro b
    unfold copyM
    dsimp only
    by_cases hp : waxP s (fx x y : Nat) (fy x y : Nat)
    · rw [if_pos hp]
      unfold u1
      by_cases e : b = y
      · subst e; simp [hp]
      · simp [e]
    · rw [if_neg hp, if_neg (fun e => hp e.2)]
  have hwet : ∀ b a, (copyM o x y s (fx x y : Nat) (fy x y : Nat)).wet b a = if b = y ∧ a = x then s.wet (fy x y) (fx x y) else o.wet b a := by
    intro b a
    unfold copyM
    dsimp only
    simp only [Int.toNat_natCast]
    exact u2_at
  have hdye : ∀ b a, (copyM o x y s (fx x y : Nat) (fy x y : Nat)).dye b a = if b = y ∧ a = x then s.dye (fy x y) (fx x y) else o.dye b a := by
    intro b a
    unfold copyM
    dsimp only
    simp only [Int.toNat_natCast]
    exact u2_at
  refine ⟨fun a b ha hb hd => ?_, fun a b ha hb hd => ?_, fun b => ?_⟩
  · rw [hwet, hdye, hrow]
    by_cases e : a = x ∧ b = y
    · obtain ⟨rfl, rfl⟩ := e
      simp only [and_self, if_true, true_and]
      have hno := (h.no a b ha hb hD).2.2
      by_cases hp : waxP s (fx a b : Nat) (fy a b : Nat)
      · rw [if_pos hp, hbit]
        simp [hp]
      · rw [if_neg hp, hno]
        simp [hp]
    · have hd' : D a b := hd.resolve_left e
      have hy' := h.yes a b ha hb hd'
      rw [if_neg (fun q => e ⟨q.2, q.1⟩), if_neg (fun q => e ⟨q.2, q.1⟩)]
      refine ⟨hy'.1, hy'.2.1, ?_⟩
      by_cases q : b = y ∧ waxP s (fx x y : Nat) (fy x y : Nat)
      · rw [if_pos q, hbit]
        obtain ⟨rfl, q⟩ := q
        have : ¬ a = x := fun q => e ⟨q, rfl⟩
        simp only [Int.toNat_natCast, this, decide_false, Bool.or_false]
        exact hy'.2.2
      · rw [if_neg q]; exact hy'.2.2
  · have e : ¬ (a = x ∧ b = y) := fun q => hd (.inl q)
    have hn := h.no a b ha hb fun q => hd (.inr q)
    rw [hwet, hdye, hrow, if_neg (fun q => e ⟨q.2, q.1⟩), if_neg (fun q => e ⟨q.2, q.1⟩)]
    refine ⟨hn.1, hn.2.1, ?_⟩
    by_cases q : b = y ∧ waxP s (fx x y : Nat) (fy x y : Nat)
    · rw [if_pos q, hbit]
      obtain ⟨rfl, q⟩ := q
      have : ¬ a = x := fun q => e ⟨q, rfl⟩
      simp only [Int.toNat_natCast, this, decide_false, Bool.or_false]
      exact hn.2.2
    · rw [if_neg q]; exact hn.2.2
  · rw [hrow]
    split
    · rw [hon.1]; omega
    · exact h.wax b
theorem Filled.congr {s o : SheetM} {fx fy : Nat → Nat → Nat} {D E : Nat → Nat → Prop} (h : Filled s fx fy o D) (e : ∀ x y, x < 8 → y < 8 → (D x y ↔ E x y)) : Filled s fx fy o E :=
  ⟨fun x y hx hy hd => h.yes x y hx hy ((e x y hx hy).2 hd), fun x y hx hy hd => h.no x y hx hy fun q => hd ((e x y hx hy).1 q), h.wax⟩
theorem Filled.same {s a b : SheetM} {fx fy : Nat → Nat → Nat} {D : Nat → Nat → Prop} (ha : Filled s fx fy a D) (hb : Filled s fx fy b D) (hw : a.w = b.w) (hh : a.h = b.h) : sameS a b := by
  have key : ∀ y < 8, ∀ x < 8, a.wet y x = b.wet y x ∧ a.dye y x = b.dye y x ∧ (a.wax y).toNat.testBit x = (b.wax y).toNat.testBit x := by
    intro y hy x hx
    by_cases hd : D x y
    · obtain ⟨h1, h2, h3⟩ := ha.yes x y hx hy hd
      obtain ⟨g1, g2, g3⟩ := hb.yes x y hx hy hd
      exact ⟨h1.trans g1.symm, h2.trans g2.symm, h3.trans g3.symm⟩
    · obtain ⟨h1, h2, h3⟩ := ha.no x y hx hy hd
      obtain ⟨g1, g2, g3⟩ := hb.no x y hx hy hd
      exact ⟨h1.trans g1.symm, h2.trans g2.symm, h3.trans g3.symm⟩
  refine ⟨hw, hh, fun y hy x hx => (key y hy x hx).1, fun y hy x hx k _ => by rw [(key y hy x hx).2.1], fun y hy => ?_⟩
  have h1 := ha.wax y
  have h2 := hb.wax y
  have : (a.wax y).toNat = (b.wax y).toNat := by
    refine Nat.eq_of_testBit_eq fun i => ?_
    by_cases hi : i < 8
    · exact (key y hy i hi).2.2
    · have hp : 2 ^ 8 ≤ 2 ^ i := Nat.pow_le_pow_right (by omega) (by omega)
      rw [Nat.testBit_lt_two_pow (by omega), Nat.testBit_lt_two_pow (by omega)]
  omega
/-- Cells in order: those before a place. -/
def before (w n : Nat) (x y : Nat) : Prop := x < w ∧ y * w + x < n
theorem before_succ {w n x y : Nat} (hw : 0 < w) : before w (n + 1) x y ↔ (x = n % w ∧ y = n / w) ∨ before w n x y := by
  have h1 := Nat.div_add_mod n w
  have h2 := Nat.mod_lt n hw
  unfold before
  constructor
  · rintro ⟨h3, h4⟩
    by_cases e : y * w + x < n
    · exact .inr ⟨h3, e⟩
    · left
      have e2 : y * w + x = n := by omega
      subst e2
      rw [Nat.mul_comm, Nat.mul_add_mod, Nat.mod_eq_of_lt h3, Nat.mul_add_div hw, Nat.div_eq_of_lt h3]
      simp
  · rintro (⟨rfl, rfl⟩ | ⟨h3, h4⟩)
    · refine ⟨h2, ?_⟩
      rw [Nat.mul_comm]; omega
    · exact ⟨h3, by omega⟩
theorem before_self {w n : Nat} (hw : 0 < w) : ¬ before w n (n % w) (n / w) := by
  have h1 := Nat.div_add_mod n w
  unfold before
  rw [Nat.mul_comm]; omega
theorem before_all {w h x y : Nat} : before w (w * h) x y ↔ x < w ∧ y < h := by
  unfold before
  constructor
  · rintro ⟨h1, h2⟩
    refine ⟨h1, ?_⟩
    by_cases e : y < h
    · exact e
    · have : h * w ≤ y * w := Nat.mul_le_mul_right w (by omega)
      rw [Nat.mul_comm w h] at h2
      omega
  · rintro ⟨h1, h2⟩
    refine ⟨h1, ?_⟩
    have : (y + 1) * w ≤ h * w := Nat.mul_le_mul_right w h2
    rw [Nat.add_mul, Nat.one_mul] at this
    rw [Nat.mul_comm w h]
    omega
theorem movedTo_filled {s : SheetM} {w h : Int} {fx fy : Int → Int → Int} {gx gy : Nat → Nat → Nat} (hw : 0 ≤ w ∧ w ≤ 8) (hh : 0 ≤ h ∧ h ≤ 8) (he : ∀ x y : Nat, x < w.toNat → y < h.toNat → fx x y = (gx x y : Nat) ∧ fy x y = (gy x y : Nat)) :
    ∀ n, n ≤ w.toNat * h.toNat → Filled s gx gy (movedTo s w h fx fy n) (before w.toNat n) := by
  intro n
  induction n with
  | zero => exact fun _ => Filled.zero.congr fun x y _ _ => ⟨fun h => h.elim, fun h => by unfold before at h; omega⟩
  | succ n ih =>
    intro hn
    have hc := cell_in (w := w.toNat) (h := h.toNat) (n := n) (by omega)
    have hpos : 0 < w.toNat := by omega
    have e := he _ _ hc.1 hc.2
    rw [movedTo_succ, e.1, e.2]
    exact ((ih (by omega)).copy (x := n % w.toNat) (y := n / w.toNat) (by omega) (by omega) (before_self hpos)).congr fun x y _ _ => (before_succ hpos).symm
end Ink
/- What the program means: a half that is unfolded; partners. No conditions. -/
namespace Ink
open Go
def partX (f : FoldM) (x : Int) : Int := if f.down then x else 2 * f.axis - 1 - x
def partY (f : FoldM) (y : Int) : Int := if f.down then 2 * f.axis - 1 - y else y
def unfW (s : SheetM) (dn : Bool) : Int := if dn then s.w else 2 * s.w
def unfH (s : SheetM) (dn : Bool) : Int := if dn then 2 * s.h else s.h
def unfF (s : SheetM) (dn : Bool) : FoldM := ⟨if dn then s.h else s.w, dn, 0⟩
abbrev unfX (s : SheetM) : Int → Int → Int := fun x _ => mm false x (2 * s.w - 1 - x)
abbrev unfY (s : SheetM) : Int → Int → Int := fun _ y => mm false y (2 * s.h - 1 - y)
def unfGx (s : SheetM) (dn : Bool) (x _y : Nat) : Nat := if dn then x else if x < s.w.toNat then x else 2 * s.w.toNat - 1 - x
def unfGy (s : SheetM) (dn : Bool) (_x y : Nat) : Nat := if dn then (if y < s.h.toNat then y else 2 * s.h.toNat - 1 - y) else y
/-- Each cell is copied to its place and to that of its partner. -/
def unfTo (s : SheetM) (dn : Bool) : Nat → SheetM
  | 0 => ⟨unfW s dn, unfH s dn, fun _ _ => 0, fun _ _ _ => 0, fun _ => 0⟩
  | n + 1 => copyM (copyM (unfTo s dn n) (n % s.w.toNat : Nat) (n / s.w.toNat : Nat) s (n % s.w.toNat : Nat) (n / s.w.toNat : Nat))
      (partX (unfF s dn) (n % s.w.toNat : Nat)) (partY (unfF s dn) (n / s.w.toNat : Nat)) s (n % s.w.toNat : Nat) (n / s.w.toNat : Nat)
theorem unfTo_succ {s : SheetM} {dn : Bool} {n : Nat} : unfTo s dn (n + 1) = copyM (copyM (unfTo s dn n) (n % s.w.toNat : Nat) (n / s.w.toNat : Nat) s (n % s.w.toNat : Nat) (n / s.w.toNat : Nat))
      (partX (unfF s dn) (n % s.w.toNat : Nat)) (partY (unfF s dn) (n / s.w.toNat : Nat)) s (n % s.w.toNat : Nat) (n / s.w.toNat : Nat) := rfl
theorem unfTo_w {s dn n} : (unfTo s dn n).w = unfW s dn := by
  induction n with
  | zero => rfl
  | succ n ih => rw [unfTo_succ]; exact ih
theorem unfTo_h {s dn n} : (unfTo s dn n).h = unfH s dn := by
  induction n with
  | zero => rfl
  | succ n ih => rw [unfTo_succ]; exact ih
theorem unfTo_filled {s : SheetM} {dn : Bool} (hw : 1 ≤ s.w ∧ s.w ≤ 8) (hh : 1 ≤ s.h ∧ s.h ≤ 8) (hW : unfW s dn ≤ 8) (hH : unfH s dn ≤ 8) :
    ∀ n, n ≤ s.w.toNat * s.h.toNat → Filled s (unfGx s dn) (unfGy s dn) (unfTo s dn n) fun x y => before s.w.toNat n (unfGx s dn x y) (unfGy s dn x y) ∧ x < (unfW s dn).toNat ∧ y < (unfH s dn).toNat := by
  intro n
  have hpos : 0 < s.w.toNat := by omega
  induction n with
  | zero => exact fun _ => Filled.zero.congr fun x y _ _ => ⟨fun h => h.elim, fun h => by have := h.1; unfold before at this; omega⟩
  | succ n ih =>
    intro hn
    have hc := cell_in (w := s.w.toNat) (h := s.h.toNat) (n := n) (by omega)
    have hself := before_self (n := n) hpos
    have hsucc := fun x y => before_succ (n := n) (x := x) (y := y) hpos
    rw [unfTo_succ]
    generalize n % s.w.toNat = x at *
    generalize n / s.w.toNat = y at *
    cases dn with
    | false =>
      simp only [unfW, unfH, unfF, partX, partY, Bool.false_eq_true, if_false] at *
      have e1 : unfGx s false x y = x := by unfold unfGx; simp [hc.1]
      have e2 : unfGy s false x y = y := rfl
      have hp : (2 * s.w - 1 - (x : Int)) = ((2 * s.w.toNat - 1 - x : Nat) : Int) := by omega
      rw [hp]
      have e3 : unfGx s false (2 * s.w.toNat - 1 - x) y = x := by unfold unfGx; simp only [Bool.false_eq_true, if_false]; rw [if_neg (by omega)]; omega
      have e4 : unfGy s false (2 * s.w.toNat - 1 - x) y = y := rfl
      have h1 := (ih (by omega)).copy (x := x) (y := y) (by omega) (by omega) (by rw [e1, e2]; exact fun h => hself h.1)
      have h2 := h1.copy (x := 2 * s.w.toNat - 1 - x) (y := y) (by omega) (by omega) (by
        rw [e3, e4]
        rintro (h | h)
        · omega
        · exact hself h.1)
      rw [e1, e2, e3, e4] at h2
      refine h2.congr fun a b ha hb => ?_
      rw [hsucc]
      constructor
      · rintro (⟨rfl, rfl⟩ | ⟨rfl, rfl⟩ | h)
        · exact ⟨.inl ⟨e3, rfl⟩, by omega, by omega⟩
        · exact ⟨.inl ⟨e1, rfl⟩, by omega, by omega⟩
        · exact ⟨.inr h.1, h.2⟩
      · rintro ⟨⟨h1, h2⟩ | h, h3⟩
        · have h2' : b = y := h2
          unfold unfGx at h1
          simp only [Bool.false_eq_true, if_false] at h1
          split at h1
          · exact .inr (.inl ⟨h1, h2'⟩)
          · exact .inl ⟨by omega, h2'⟩
        · exact .inr (.inr ⟨h, h3⟩)
    | true =>
      simp only [unfW, unfH, unfF, partX, partY, if_true] at *
      have e1 : unfGx s true x y = x := rfl
      have e2 : unfGy s true x y = y := by unfold unfGy; simp [hc.2]
      have hp : (2 * s.h - 1 - (y : Int)) = ((2 * s.h.toNat - 1 - y : Nat) : Int) := by omega
      rw [hp]
      have e3 : unfGx s true x (2 * s.h.toNat - 1 - y) = x := rfl
      have e4 : unfGy s true x (2 * s.h.toNat - 1 - y) = y := by unfold unfGy; simp only [if_true]; rw [if_neg (by omega)]; omega
      have h1 := (ih (by omega)).copy (x := x) (y := y) (by omega) (by omega) (by rw [e1, e2]; exact fun h => hself h.1)
      have h2 := h1.copy (x := x) (y := 2 * s.h.toNat - 1 - y) (by omega) (by omega) (by
        rw [e3, e4]
        rintro (h | h)
        · omega
        · exact hself h.1)
      rw [e1, e2, e3, e4] at h2
      refine h2.congr fun a b ha hb => ?_
      rw [hsucc]
      constructor
      · rintro (⟨rfl, rfl⟩ | ⟨rfl, rfl⟩ | h)
        · exact ⟨.inl ⟨rfl, e4⟩, by omega, by omega⟩
        · exact ⟨.inl ⟨rfl, e2⟩, by omega, by omega⟩
        · exact ⟨.inr h.1, h.2⟩
      · rintro ⟨⟨h1, h2⟩ | h, h3⟩
        · have h1' : a = x := h1
          unfold unfGy at h2
          simp only [if_true] at h2
          split at h2
          · exact .inr (.inl ⟨h1', h2⟩)
          · exact .inl ⟨h1', by omega⟩
        · exact .inr (.inr ⟨h, h3⟩)
theorem unf_same {s : SheetM} {dn : Bool} (hv : validS s) (hW : unfW s dn ≤ 8) (hH : unfH s dn ≤ 8) : sameS (movedM s (unfW s dn) (unfH s dn) (unfX s) (unfY s)) (unfTo s dn (s.w.toNat * s.h.toNat)) := by
  have hw := hv.1
  have hh := hv.2.1
  have hW0 : 0 ≤ unfW s dn := by unfold unfW; split <;> omega
  have hH0 : 0 ≤ unfH s dn := by unfold unfH; split <;> omega
  have h1 := movedTo_filled (s := s) (w := unfW s dn) (h := unfH s dn) (fx := unfX s) (fy := unfY s) (gx := unfGx s dn) (gy := unfGy s dn) ⟨hW0, hW⟩ ⟨hH0, hH⟩ (fun x y hx hy => by
    unfold unfW unfH at *
    unfold unfX unfY unfGx unfGy mm
    simp only [Bool.false_eq_true, if_false]
    cases dn <;> simp only [Bool.false_eq_true, if_false, if_true] at *
    · refine ⟨?_, ?_⟩
      · split <;> split <;> omega
      · split <;> omega
    · refine ⟨?_, ?_⟩
      · split <;> omega
      · split <;> split <;> omega) _ (Nat.le_refl _)
  have h2 := unfTo_filled hw hh hW hH _ (Nat.le_refl _)
  refine h1.same (h2.congr fun x y _ _ => ?_) (movedTo_w.trans unfTo_w.symm) (movedTo_h.trans unfTo_h.symm)
  rw [before_all, before_all]
  constructor
  · exact fun h => h.2
  · intro h
    refine ⟨?_, h⟩
    unfold unfW unfH at *
    unfold unfGx unfGy
    cases dn <;> simp only [Bool.false_eq_true, if_false, if_true] at *
    · refine ⟨?_, by omega⟩
      split <;> omega
    · refine ⟨by omega, ?_⟩
      split <;> omega
noncomputable def unfC (s : SheetM) (dn : Bool) : Int := if validS s then (if 8 < unfW s dn ∨ 8 < unfH s dn then 3 else 0) else 1
theorem unfC_bad {s dn} (h : ¬ validS s) : unfC s dn = 1 := by simp [unfC, h]
theorem unfC_lim {s dn} (h : validS s) (h2 : 8 < unfW s dn ∨ 8 < unfH s dn) : unfC s dn = 3 := by simp only [unfC, h, h2, if_true]
theorem unfC_ok {s dn} (h : validS s) (h2 : ¬ (8 < unfW s dn ∨ 8 < unfH s dn)) : unfC s dn = 0 := by simp only [unfC, h, h2, if_true, if_false]
theorem unfS_same {s : SheetM} {dn : Bool} : sameS (codeS (unfC s dn) (movedM s (unfW s dn) (unfH s dn) (unfX s) (unfY s))) (codeS (unfC s dn) (unfTo s dn (s.w.toNat * s.h.toNat))) := by
  unfold codeS
  by_cases hc : unfC s dn = 0
  · rw [if_pos hc, if_pos hc]
    by_cases hv : validS s
    · by_cases h2 : 8 < unfW s dn ∨ 8 < unfH s dn
      · rw [unfC_lim hv h2] at hc; omega
      · exact unf_same hv (by omega) (by omega)
    · rw [unfC_bad hv] at hc; omega
  · rw [if_neg hc, if_neg hc]; exact sameS.refl _
end Ink
/- What the program means: partners told with a code, and rinsing. No conditions. -/
namespace Ink
open Go
noncomputable def partC (s : SheetM) (f : FoldM) (x y : Int) : Int := if askF s f (decide (hasP s x y)) = 0 then (if hasP s (partX f x) (partY f y) then 0 else 6) else askF s f (decide (hasP s x y))
noncomputable def partV (s : SheetM) (f : FoldM) (x y : Int) : AV := .tup [.agg shSpot (spotD (if partC s f x y = 0 then partX f x else 0) (if partC s f x y = 0 then partY f y else 0)), .int .i64 (partC s f x y)]
section
variable {s : SheetM} {f : FoldM} {x y c : Int}
theorem partV_code (e : askF s f (decide (hasP s x y)) = c) (hc : c ≠ 0) : partV s f x y = .tup [.agg shSpot (spotD 0 0), .int .i64 c] := by
  have : partC s f x y = c := by simp only [partC, e, hc, if_false]
  simp [partV, this, hc]
theorem partV_none (e : askF s f (decide (hasP s x y)) = 0) (h : ¬ hasP s (partX f x) (partY f y)) : partV s f x y = .tup [.agg shSpot (spotD 0 0), .int .i64 6] := by
  have : partC s f x y = 6 := by simp only [partC, e, h, if_true, if_false]
  simp [partV, this]
theorem partV_ok (e : askF s f (decide (hasP s x y)) = 0) (h : hasP s (partX f x) (partY f y)) : partV s f x y = .tup [.agg shSpot (spotD (partX f x) (partY f y)), .int .i64 0] := by
  have : partC s f x y = 0 := by simp only [partC, e, h, if_true]
  simp [partV, this]
end
theorem zmr {s : SheetM} {f : FoldM} (hv : validS s) (hp : foldP s f) : 1 ≤ f.axis ∧ f.axis ≤ 7 := by
  have := hv.1
  have := hv.2.1
  unfold foldP sideM at hp
  by_cases h : f.down = true
  · simp only [h, if_true] at hp; omega
  · simp only [h, if_false] at hp; omega
/-! Rinsing -/
def rinseBy (d share : Int) : Int := (d * share + 15).tdiv 16
theorem rinseBy_mul {d share : Int} (hd : 0 ≤ d ∧ d ≤ 1000) (hs : 1 ≤ share ∧ share ≤ 15) : 0 ≤ d * share ∧ d * share ≤ d * 15 ∧ d ≤ d * share := by
  refine ⟨Int.mul_nonneg hd.1 (by omega), Int.mul_le_mul_of_nonneg_left hs.2 hd.1, ?_⟩
  have := Int.mul_le_mul_of_nonneg_left hs.1 hd.1
  omega
theorem rinseBy_bd {d share : Int} (hd : 0 ≤ d ∧ d ≤ 1000) (hs : 1 ≤ share ∧ share ≤ 15) : 0 ≤ rinseBy d share ∧ rinseBy d share ≤ d ∧ (0 < d → 0 < rinseBy d share) := by
  have := rinseBy_mul hd hs
  unfold rinseBy
  rw [Int.tdiv_eq_ediv_of_nonneg (by omega)]
  omega
abbrev RinM := SheetM × (Nat → Int)
def rinse1 (share : Int) (st : RinM) (x y k : Nat) : RinM :=
  ({ st.1 with dye := u3 st.1.dye y x k (st.1.dye y x k - rinseBy (st.1.dye y x k) share) }, u1 st.2 k (st.2 k + rinseBy (st.1.dye y x k) share))
def rinseInk (share : Int) (st : RinM) (x y : Nat) : Nat → RinM
  | 0 => st
  | k + 1 => rinse1 share (rinseInk share st x y k) x y k
def rinseTo (s : SheetM) (share : Int) : Nat → RinM
  | 0 => (s, fun _ => 0)
  | n + 1 => rinseInk share (rinseTo s share n) (n % s.w.toNat) (n / s.w.toNat) 3
theorem rinseInk_zero {share st x y} : rinseInk share st x y 0 = st := rfl
theorem rinseInk_succ {share st x y k} : rinseInk share st x y (k + 1) = rinse1 share (rinseInk share st x y k) x y k := rfl
theorem rinseTo_zero {s share} : rinseTo s share 0 = (s, fun _ => 0) := rfl
theorem rinseTo_succ {s share n} : rinseTo s share (n + 1) = rinseInk share (rinseTo s share n) (n % s.w.toNat) (n / s.w.toNat) 3 := rfl
/-- What stays so: sides, water and wax, and the dyes' bounds. -/
structure RinOk (s : SheetM) (c : Int) (st : RinM) : Prop where
  w : st.1.w = s.w
  h : st.1.h = s.h
  wet : st.1.wet = s.wet
  wax : st.1.wax = s.wax
  dye : ∀ y x k, y < 8 → x < 8 → k < 3 → 0 ≤ st.1.dye y x k ∧ st.1.dye y x k ≤ s.dye y x k
  out : ∀ y x k, ¬ (y < 8 ∧ x < 8 ∧ k < 3) → st.1.dye y x k = s.dye y x k
  sum : ∀ k, 0 ≤ st.2 k ∧ st.2 k ≤ c
def dyeOk (s : SheetM) : Prop := ∀ y x k, y < 8 → x < 8 → k < 3 → 0 ≤ s.dye y x k ∧ s.dye y x k ≤ 1000
theorem valid_dye {s : SheetM} (hv : validS s) : dyeOk s := fun y x k hy hx hk => by
  have h := (hv.2.2 y hy x hx).2.2.1 k hk
  simpa using h
theorem u3_at {α : Type} {f : Nat → Nat → Nat → α} {i j k i' j' k' : Nat} {v : α} : u3 f i j k v i' j' k' = if i' = i ∧ j' = j ∧ k' = k then v else f i' j' k' := by
  unfold u3 u2 u1
  by_cases h : i' = i
  · subst h
    by_cases h2 : j' = j
    · subst h2
      by_cases h3 : k' = k <;> simp [h3]
    · simp [h2]
  · simp [h]
theorem u1_at {α : Type} {f : Nat → α} {i i' : Nat} {v : α} : u1 f i v i' = if i' = i then v else f i' := rfl
theorem RinOk.step {s : SheetM} {c share : Int} {st : RinM} {x y k : Nat} (hd : dyeOk s) (hs : 1 ≤ share ∧ share ≤ 15) (h : RinOk s c st) (hx : x < 8) (hy : y < 8) (hk : k < 3) : RinOk s (c + 1000) (rinse1 share st x y k) := by
  have h1 := h.dye y x k hy hx hk
  have h2 := hd y x k hy hx hk
  have hb := rinseBy_bd (d := st.1.dye y x k) (share := share) (by omega) hs
  refine ⟨h.w, h.h, h.wet, h.wax, fun b a q hb' ha hq => ?_, fun b a q hn => ?_, fun q => ?_⟩
  · show 0 ≤ u3 st.1.dye y x k _ b a q ∧ u3 st.1.dye y x k _ b a q ≤ _
    rw [u3_at]
    split
    · rename_i e
      obtain ⟨rfl, rfl, rfl⟩ := e
      omega
    · exact h.dye b a q hb' ha hq
  · show u3 st.1.dye y x k _ b a q = _
    rw [u3_at, if_neg (fun e => hn ⟨by omega, by omega, by omega⟩)]
    exact h.out b a q hn
  · show 0 ≤ u1 st.2 k _ q ∧ u1 st.2 k _ q ≤ _
    have h3 := h.sum q
    have h4 := h.sum k
    rw [u1_at]
    split <;> omega
theorem RinOk.ink {s : SheetM} {c share : Int} {st : RinM} {x y : Nat} (hd : dyeOk s) (hs : 1 ≤ share ∧ share ≤ 15) (h : RinOk s c st) (hx : x < 8) (hy : y < 8) : ∀ k : Nat, k ≤ 3 → RinOk s (c + 1000 * (k : Int)) (rinseInk share st x y k) := by
  intro k
  induction k with
  | zero => intro _; rw [rinseInk_zero]; simpa using h
  | succ k ih =>
    intro hk
    have := (ih (by omega)).step hd hs hx hy (k := k) (by omega)
    rw [rinseInk_succ]
    have e : c + 1000 * ((k + 1 : Nat) : Int) = c + 1000 * (k : Int) + 1000 := by omega
    rw [e]; exact this
theorem RinOk.to {s : SheetM} {share : Int} (hd : dyeOk s) (hs : 1 ≤ share ∧ share ≤ 15) (hm : small s) : ∀ n : Nat, n ≤ s.w.toNat * s.h.toNat → RinOk s (3000 * (n : Int)) (rinseTo s share n) := by
  intro n
  induction n with
  | zero => exact fun _ => ⟨rfl, rfl, rfl, rfl, fun y x k hy hx hk => ⟨(hd y x k hy hx hk).1, Int.le_refl _⟩, fun _ _ _ _ => rfl, fun _ => by simp [rinseTo_zero]⟩
  | succ n ih =>
    intro hn
    have hc := cell_in (w := s.w.toNat) (h := s.h.toNat) (n := n) (by omega)
    have := (ih (by omega)).ink hd hs (x := n % s.w.toNat) (y := n / s.w.toNat) (by omega) (by omega) 3 (by omega)
    rw [rinseTo_succ]
    have e : (3000 : Int) * ((n + 1 : Nat) : Int) = 3000 * (n : Int) + 1000 * ((3 : Nat) : Int) := by omega
    rw [e]; exact this
abbrev rinseM (s : SheetM) (share : Int) : RinM := rinseTo s share (s.w.toNat * s.h.toNat)
theorem codeM_cases (s : SheetM) (r : Bool) : (codeM s r = 0 ∧ validS s ∧ r = true) ∨ codeM s r = 1 ∨ codeM s r = 2 := by
  unfold codeM
  by_cases hv : validS s
  · cases r <;> simp [hv]
  · simp [hv]
noncomputable def rinC (s : SheetM) (share : Int) : Int := codeM s (decide (1 ≤ share ∧ share ≤ 15))
noncomputable def rinV (s : SheetM) (share : Int) : AV := .tup [.agg shSheet (sheetD (if rinC s share = 0 then (rinseM s share).1 else zeroSheet)), .agg (.arr 3 (.int .i64)) (a1 .i64 (if rinC s share = 0 then upTo (rinseM s share).2 0 3 else fun _ => 0)), .int .i64 (rinC s share)]
theorem rinV_ok {s share} (e : rinC s share = 0) : rinV s share = .tup [.agg shSheet (sheetD (rinseM s share).1), .agg (.arr 3 (.int .i64)) (a1 .i64 (upTo (rinseM s share).2 0 3)), .int .i64 0] := by simp [rinV, e]
theorem rinV_no {s share} {c : Int} (e : rinC s share = c) (hc : c ≠ 0) : rinV s share = .tup [.agg shSheet (sheetD zeroSheet), .agg (.arr 3 (.int .i64)) (a1 .i64 fun _ => 0), .int .i64 c] := by simp [rinV, e, hc]
end Ink
/- What the program means: pairs of partners. No conditions. -/
namespace Ink
open Go
structure PairM where
  ax : Int
  ay : Int
  bx : Int
  by' : Int
def pairD (a b c d : Int) : DV := .arr fun i => if i = 0 then spotD a b else if i = 1 then spotD c d else spotD 0 0
def pairV (p : PairM) : DV := pairD p.ax p.ay p.bx p.by'
abbrev shPair : Sh := .arr 2 shSpot
section
variable {a b c d x y : Int} {p : List Nat}
theorem zf6 : (Sh.arr 2 shSpot).zero = pairD 0 0 0 0 := by
  show DV.arr (fun _ => spotD 0 0) = DV.arr _
  congr 1; funext i; split
  · rfl
  · split <;> rfl
theorem zez : (Sh.arr 2 shSpot).fld 0 = some shSpot := rfl
theorem zf0 : (Sh.arr 2 shSpot).fld 1 = some shSpot := rfl
theorem zf1 : (pairD a b c d).get (0 :: p) = (spotD a b).get p := by unfold pairD; rw [DV.get]; simp
theorem zf2 : (pairD a b c d).get (1 :: p) = (spotD c d).get p := by unfold pairD; rw [DV.get]; simp
theorem zf3 : (pairD a b c d).set [0] (spotD x y) = pairD x y c d := by
  unfold pairD; rw [DV.set]; congr 1; funext j
  by_cases h : j = 0
  · subst h; simp [DV.set]
  · simp [h]
theorem zf4 : (pairD a b c d).set [1] (spotD x y) = pairD a b x y := by
  unfold pairD; rw [DV.set]; congr 1; funext j
  by_cases h : j = 1
  · subst h; simp [DV.set]
  · simp [h]
theorem zey : Has shPair (pairD a b c d) := fun i hi => by
  dsimp only
  split
  · exact z0a
  · split <;> exact z0a
theorem zf5 : shPair.size = 4 := rfl
end
def firstP (f : FoldM) (x y : Int) : Prop := (if f.down then y else x) < f.axis
def pairP (s : SheetM) (f : FoldM) (x y : Int) : Prop := firstP f x y ∧ hasP s (partX f x) (partY f y) ∧ ¬ waxP s x y ∧ ¬ waxP s (partX f x) (partY f y)
noncomputable instance {s f x y} : Decidable (pairP s f x y) := Classical.propDecidable _
noncomputable def pairsTo (s : SheetM) (f : FoldM) : Nat → List PairM
  | 0 => []
  | n + 1 => if pairP s f (n % s.w.toNat : Nat) (n / s.w.toNat : Nat) then pairsTo s f n ++ [⟨(n % s.w.toNat : Nat), (n / s.w.toNat : Nat), partX f (n % s.w.toNat : Nat), partY f (n / s.w.toNat : Nat)⟩] else pairsTo s f n
section
variable {s : SheetM} {f : FoldM} {n : Nat}
theorem pairsTo_zero : pairsTo s f 0 = [] := rfl
theorem pairsTo_yes (h : pairP s f (n % s.w.toNat : Nat) (n / s.w.toNat : Nat)) : pairsTo s f (n + 1) = pairsTo s f n ++ [⟨(n % s.w.toNat : Nat), (n / s.w.toNat : Nat), partX f (n % s.w.toNat : Nat), partY f (n / s.w.toNat : Nat)⟩] := by rw [pairsTo, if_pos h]
theorem pairsTo_no (h : ¬ pairP s f (n % s.w.toNat : Nat) (n / s.w.toNat : Nat)) : pairsTo s f (n + 1) = pairsTo s f n := by rw [pairsTo, if_neg h]
theorem pairsTo_len : (pairsTo s f n).length ≤ n := by
  induction n with
  | zero => simp [pairsTo]
  | succ n ih =>
    rw [pairsTo]; split
    · simp; omega
    · omega
theorem pairsTo_mem (hm : small s) (hn : n ≤ s.w.toNat * s.h.toNat) {p : PairM} (hp : p ∈ pairsTo s f n) : in8 p.ax p.ay ∧ in8 p.bx p.by' ∧ ¬ waxP s p.ax p.ay ∧ ¬ waxP s p.bx p.by' ∧ hasP s p.ax p.ay ∧ hasP s p.bx p.by' := by
  induction n with
  | zero => simp [pairsTo] at hp
  | succ n ih =>
    rw [pairsTo] at hp
    split at hp
    · rename_i h
      rcases List.mem_append.1 hp with hp | hp
      · exact ih (by omega) hp
      · simp only [List.mem_singleton] at hp
        subst hp
        have hc := cell_in (w := s.w.toNat) (h := s.h.toNat) (n := n) (by omega)
        obtain ⟨_, h2, h3, h4⟩ := h
        refine ⟨in8_of (by omega) (by omega), ?_, h3, h4, ?_, h2⟩
        · unfold hasP at h2; dsimp only; omega
        · unfold hasP; dsimp only
          generalize n % s.w.toNat = a at *
          generalize n / s.w.toNat = b at *
          omega
    · exact ih (by omega) hp
end
noncomputable abbrev pairsM (s : SheetM) (f : FoldM) : List PairM := pairsTo s f (s.w.toNat * s.h.toNat)
theorem map_get {α β : Type} {l : List α} {g : α → β} {i : Nat} {a : α} (h : l[i]? = some a) : (l.map g)[i]? = some (g a) := by rw [List.getElem?_map, h]; rfl
end Ink
/- What the program means: brushes. No conditions. -/
namespace Ink
open Go
def brushP (b : BrushM) : Prop := (∀ k < 3, 0 ≤ b.dye k ∧ b.dye k ≤ 900) ∧ b.dye 0 + b.dye 1 + b.dye 2 ≤ 900 ∧ (0 ≤ b.water ∧ b.water ≤ 200) ∧ 1 ≤ b.share ∧ b.share ≤ 16
noncomputable instance {b} : Decidable (brushP b) := Classical.propDecidable _
noncomputable def askB (s : SheetM) (b : BrushM) (x y : Int) : Int := if brushP b then askM s x y true else 1
theorem askB_cases (s : SheetM) (b : BrushM) (x y : Int) : (askB s b x y = 0 ∧ validS s ∧ brushP b ∧ hasP s x y) ∨ askB s b x y = 1 ∨ askB s b x y = 2 := by
  unfold askB
  by_cases hb : brushP b
  · rw [if_pos hb]
    rcases askM_cases s x y true with ⟨h1, h2, h3, _⟩ | h | h
    · exact .inl ⟨h1, h2, hb, h3⟩
    · exact .inr (.inl h)
    · exact .inr (.inr h)
  · rw [if_neg hb]; exact .inr (.inl rfl)
def minM (a b : Int) : Int := if a < b then a else b
theorem mm_min {a b : Int} : mm false a b = minM a b := by
  unfold mm minM
  simp only [Bool.false_eq_true, if_false]
  split <;> split <;> omega
def partB (n share : Int) : Int := (n * share + 15).tdiv 16
theorem partB_mul {n share : Int} (hn : 0 ≤ n ∧ n ≤ 1000) (hs : 1 ≤ share ∧ share ≤ 16) : 0 ≤ n * share ∧ n * share ≤ n * 16 := by
  exact ⟨Int.mul_nonneg hn.1 (by omega), Int.mul_le_mul_of_nonneg_left hs.2 hn.1⟩
theorem partB_bd {n share : Int} (hn : 0 ≤ n ∧ n ≤ 1000) (hs : 1 ≤ share ∧ share ≤ 16) : 0 ≤ partB n share ∧ partB n share ≤ n := by
  have := partB_mul hn hs
  unfold partB
  rw [Int.tdiv_eq_ediv_of_nonneg (by omega)]
  omega
noncomputable def leaveD (s : SheetM) (b : BrushM) (x y : Int) (k : Nat) : Int := if waxP s x y then 0 else minM (partB (b.dye k) b.share) (1000 - s.dye y.toNat x.toNat k)
noncomputable def leaveW (s : SheetM) (b : BrushM) (x y : Int) : Int := if waxP s x y then 0 else minM (partB b.water b.share) (200 - s.wet y.toNat x.toNat)
noncomputable def leaveV (s : SheetM) (b : BrushM) (x y : Int) : AV :=
  .tup [.agg (.arr 3 (.int .i64)) (a1 .i64 (if askB s b x y = 0 then upTo (leaveD s b x y) 0 3 else fun _ => 0)), .int .i64 (if askB s b x y = 0 then leaveW s b x y else 0), .int .i64 (askB s b x y)]
section
variable {s : SheetM} {b : BrushM} {x y c : Int}
theorem leaveV_code (e : askB s b x y = c) (hc : c ≠ 0) : leaveV s b x y = .tup [.agg (.arr 3 (.int .i64)) (a1 .i64 fun _ => 0), .int .i64 0, .int .i64 c] := by
  simp [leaveV, e, hc]
theorem leaveV_ok (e : askB s b x y = 0) : leaveV s b x y = .tup [.agg (.arr 3 (.int .i64)) (a1 .i64 (upTo (leaveD s b x y) 0 3)), .int .i64 (leaveW s b x y), .int .i64 0] := by
  simp [leaveV, e]
theorem leaveD_bd (hs : validS s) (hb : brushP b) (hh : hasP s x y) (k : Nat) (hk : k < 3) : 0 ≤ leaveD s b x y k ∧ leaveD s b x y k ≤ b.dye k ∧ leaveD s b x y k ≤ 1000 - s.dye y.toNat x.toNat k := by
  have h1 := (cell_bd hs hh).2 k hk
  have h2 := hb.1 k hk
  have h3 := partB_bd (n := b.dye k) (share := b.share) (by omega) hb.2.2.2
  unfold leaveD minM
  split
  · omega
  · split <;> omega
theorem leaveW_bd (hs : validS s) (hb : brushP b) (hh : hasP s x y) : 0 ≤ leaveW s b x y ∧ leaveW s b x y ≤ b.water ∧ leaveW s b x y ≤ 200 - s.wet y.toNat x.toNat := by
  have h1 := (cell_bd hs hh).1
  have h2 := hb.2.2.1
  have h3 := partB_bd (n := b.water) (share := b.share) (by omega) hb.2.2.2
  unfold wetM at h1
  unfold leaveW minM
  split
  · omega
  · split <;> omega
end
end Ink
