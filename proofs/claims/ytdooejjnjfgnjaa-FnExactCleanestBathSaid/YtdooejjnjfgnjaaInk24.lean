/- What the program means: cutting, and folds. No conditions. -/
import Derived.Test.YtdooejjnjfgnjaaInk23
set_option linter.unusedVariables false
set_option linter.unusedSimpArgs false
namespace Ink
open Go
/-- A reader of two blocks, at any heap. -/
theorem ACall.at2 {P : Program} {f : FuncId} {args : List AV} {v : AV} {B C : Blk} (h : ACall P [] f args [B, C] v [B, C]) (hB : noRef B = true) (hC : noRef C = true) {H : Heap} {b c : Nat} (hb : H[b]? = some B) (hc : H[c]? = some C) (hne : b ≠ c) {args' : List AV} (hs : inScopes 2 args) (ha : rens (kap [b, c] 2 H.length) args = args') (hv : plain v = true) :
    ACall P [] f args' H v H := by
  subst ha
  have hr : ∀ (B : Blk), noRef B = true → ∀ κ, renB κ B = B := fun B hB κ => by cases B <;> first | rfl | simp [noRef] at hB
  have hl : ∀ (B : Blk), noRef B = true → B.lv = true := fun B hB => by cases B <;> first | rfl | simp [noRef] at hB
  have hsc : ∀ (B : Blk), noRef B = true → ∀ n, inScopeB n B := fun B hB n => by cases B <;> first | trivial | simp [noRef] at hB
  have h2 := plain_ren (σ := kap [b, c] 2 H.length) (m := 0) hv
  have := ACall.frame (Hm := [B, C]) (Hm' := [B, C]) (N := []) h rfl (H := H) [b, c] rfl (by simp [hne]) (fun i D hi => by
    match i with
    | 0 => simp at hi; subst hi; simp [hr _ hB, hb]
    | 1 => simp at hi; subst hi; simp [hr _ hC, hc]
    | i + 2 => simp at hi) hs (fun D hD => by
      simp at hD
      rcases hD with rfl | rfl
      · exact hsc _ hB _
      · exact hsc _ hC _) (fun i hi => by simp at hi) (fun D hD => by
      simp at hD
      rcases hD with rfl | rfl
      · exact hl _ hB
      · exact hl _ hC) (by simp)
  simp only [setAll, hr _ hB, hr _ hC, List.length_cons, List.length_nil, Nat.zero_add] at this
  have e0 : kap [b, c] (1 + 1) H.length 0 = b := by simp [kap]
  have e1 : kap [b, c] (1 + 1) H.length 1 = c := by simp [kap]
  rw [e0, e1, h2.1, set_same hb, set_same hc] at this
  simpa using this
theorem ask_eq {s : SheetM} {x y : Int} {r : Bool} (q : Bool) (h : q = (decide (hasP s x y) && r)) : codeM s q = askM s x y r := by rw [ask_code, h]
/-- A sheet and a code: the sheet if the code is 0. -/
def codeS (c : Int) (m : SheetM) : SheetM := if c = 0 then m else zeroSheet
def codeV (c : Int) (m : SheetM) : AV := .tup [.agg shSheet (sheetD (codeS c m)), .int .i64 c]
theorem codeV_0 {c m} (h : c = 0) : codeV c m = .tup [.agg shSheet (sheetD m), .int .i64 0] := by simp [codeV, codeS, h]
theorem codeV_ne {c m} {d : Int} (h : c = d) (hd : d ≠ 0) : codeV c m = .tup [.agg shSheet (sheetD zeroSheet), .int .i64 d] := by simp [codeV, codeS, h, hd]
def cutP (s : SheetM) (x y w h : Int) : Prop := (1 ≤ w ∧ w ≤ s.w - x) ∧ 1 ≤ h ∧ h ≤ s.h - y
instance {s x y w h} : Decidable (cutP s x y w h) := by unfold cutP; infer_instance
noncomputable def cutC (s : SheetM) (x y w h : Int) : Int := askM s x y (decide (cutP s x y w h))
noncomputable def cutV (s : SheetM) (x y w h : Int) : AV := codeV (cutC s x y w h) (movedM s w h (addX x) (addY y))
theorem cutC_no {s x y w h} (hd : ¬ cutP s x y w h) : cutC s x y w h ≠ 0 := by
  unfold cutC askM
  split
  · rw [if_neg (by simp [hd])]; decide
  · decide
theorem cutC_out {s x y w h} (hd : ¬ hasP s x y) : cutC s x y w h ≠ 0 := by
  unfold cutC askM
  split
  · rw [if_neg (by simp [hd])]; decide
  · decide
/-! Folds -/
def sideM (s : SheetM) (f : FoldM) : Int := if f.down then s.h else s.w
def foldP (s : SheetM) (f : FoldM) : Prop := (1 ≤ f.axis ∧ f.axis ≤ sideM s f - 1) ∧ 1 ≤ f.press ∧ f.press ≤ 8
instance {s f} : Decidable (foldP s f) := by unfold foldP; infer_instance
noncomputable def askF (s : SheetM) (f : FoldM) (r : Bool) : Int := if validS s then (if foldP s f ∧ r = true then 0 else 2) else 1
theorem askF_cases (s : SheetM) (f : FoldM) (r : Bool) : (askF s f r = 0 ∧ validS s ∧ foldP s f ∧ r = true) ∨ askF s f r = 1 ∨ askF s f r = 2 := by
  unfold askF
  by_cases hv : validS s
  · by_cases h : foldP s f ∧ r = true
    · simp [hv, h]
    · simp [hv, h]
  · simp [hv]
theorem askF_code {s f r} : codeM s (decide (foldP s f) && r) = askF s f r := by
  unfold askF codeM
  by_cases hv : validS s
  · by_cases h : foldP s f <;> cases r <;> simp [h, hv]
  · simp [hv]
theorem askF_code' {s f r} : codeM s (decide (validS s ∧ foldP s f) && r) = askF s f r := by
  unfold askF codeM
  by_cases hv : validS s
  · by_cases h : foldP s f <;> cases r <;> simp [h, hv]
  · simp [hv]
def halfW (s : SheetM) (f : FoldM) : Int := if f.down then s.w else f.axis
def halfH (s : SheetM) (f : FoldM) : Int := if f.down then f.axis else s.h
noncomputable def halfV (s : SheetM) (f : FoldM) : AV := codeV (askF s f true) (movedM s (halfW s f) (halfH s f) sameX sameY)
theorem half_cut {s : SheetM} {f : FoldM} (hv : validS s) (hf : foldP s f) : cutV s 0 0 (halfW s f) (halfH s f) = .tup [.agg shSheet (sheetD (movedM s (halfW s f) (halfH s f) sameX sameY)), .int .i64 0] := by
  have hw := hv.1
  have hh := hv.2.1
  have hc : cutC s 0 0 (halfW s f) (halfH s f) = 0 := by
    unfold cutC
    refine ask_ok hv (by unfold hasP; omega) (decide_eq_true ?_)
    unfold foldP sideM at hf
    unfold cutP halfW halfH
    cases hd : f.down <;> simp [hd] at hf ⊢ <;> omega
  unfold cutV
  rw [codeV_0 hc]
  have : movedM s (halfW s f) (halfH s f) (addX 0) (addY 0) = movedM s (halfW s f) (halfH s f) sameX sameY :=
    movedTo_ext (Nat.le_refl _) fun x y _ _ => by simp [addX, addY, sameX, sameY]
  rw [this]
end Ink
