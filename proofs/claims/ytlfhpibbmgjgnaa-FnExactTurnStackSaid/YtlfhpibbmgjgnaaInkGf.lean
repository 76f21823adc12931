/- Contracts of functions of the program, by the texts that it imports. No conditions. -/
import Derived.Test.YtlfhpibbmgjgnaaInkGe
set_option linter.unusedVariables false
set_option linter.unusedSimpArgs false
/- What the program means: waxing and dropping. No conditions. -/
namespace Ink
open Go
theorem acall_goW {P : Program} {n : Nat} {W W' : List Nat} {f : FuncId} {args : List AV} {H H' : Heap} {v : AV} {K : AV → Heap → Prop} (h : ACall P W' f args H v H') (hW : ∀ i ∈ W', may n W i) (hk : force v fun v => force H' fun H' => K v H') : acall P n W f args H K :=
  acall_of h hW hk
theorem ACall.at1w {P : Program} {f : FuncId} {args : List AV} {v : AV} {B B' : Blk} (h : ACall P [0] f args [B] v [B']) (hB : noRef B = true) (hB' : noRef B' = true) (hw : B.wr = true) (hw' : B'.wr = true) {H : Heap} {b : Nat} (hb : H[b]? = some B) {args' : List AV} (hs : inScopes 1 args) (ha : rens (kap [b] 1 H.length) args = args') (hv : plain v = true) :
    ACall P [b] f args' H v (H.set b B') := by
  subst ha
  have hr : ∀ κ, renB κ B = B := fun κ => by cases B <;> first | rfl | simp [noRef] at hB
  have hr' : ∀ κ, renB κ B' = B' := fun κ => by cases B' <;> first | rfl | simp [noRef] at hB'
  have hl : B.lv = true := by cases B <;> first | rfl | simp [noRef] at hB
  have hsc : inScopeB 1 B := by cases B <;> first | trivial | simp [noRef] at hB
  have h2 := plain_ren (σ := kap [b] 1 H.length) (m := 0) hv
  have := ACall.frame1 h hb hr hr' hs hsc (fun i hi => by simpa using hi) (Or.inr hw) hl (by rw [hw, hw'])
  rw [h2.1] at this
  simpa using this
def inkP (k : Int) : Prop := 0 ≤ k ∧ k ≤ 2
instance {k} : Decidable (inkP k) := by unfold inkP; infer_instance
def dropP (k a w : Int) : Prop := (0 ≤ k ∧ k ≤ 2) ∧ (0 ≤ a ∧ a ≤ 1000) ∧ 0 ≤ w ∧ w ≤ 200
instance {k a w} : Decidable (dropP k a w) := by unfold dropP; infer_instance
section
variable {s : SheetM} {x y k a w c : Int}
end
end Ink
/- What the program means: sheets whose cells are taken from another one; writers that read a second block. No conditions. -/
namespace Ink
open Go
theorem ACall.at2w {P : Program} {f : FuncId} {args : List AV} {v : AV} {B B' C : Blk} (h : ACall P [0] f args [B, C] v [B', C]) (hB : noRef B = true) (hB' : noRef B' = true) (hC : noRef C = true) (hw : B.wr = true) (hw' : B'.wr = true) {H : Heap} {b c : Nat} (hb : H[b]? = some B) (hc : H[c]? = some C) (hne : b ≠ c) {args' : List AV} (hs : inScopes 2 args) (ha : rens (kap [b, c] 2 H.length) args = args') (hv : plain v = true) :
    ACall P [b] f args' H v (H.set b B') := by
  subst ha
  have hr : ∀ (B : Blk), noRef B = true → ∀ κ, renB κ B = B := fun B hB κ => by cases B <;> first | rfl | simp [noRef] at hB
  have hl : ∀ (B : Blk), noRef B = true → B.lv = true := fun B hB => by cases B <;> first | rfl | simp [noRef] at hB
  have hsc : ∀ (B : Blk), noRef B = true → ∀ n, inScopeB n B := fun B hB n => by cases B <;> first | trivial | simp [noRef] at hB
  have h2 := plain_ren (σ := kap [b, c] 2 H.length) (m := 0) hv
  have := ACall.frame (Hm := [B, C]) (Hm' := [B', C]) (N := []) h rfl (H := H) [b, c] rfl (by simp [hne]) (fun i D hi => by
    match i with
    | 0 => simp at hi; subst hi; simp [hr _ hB, hb]
    | 1 => simp at hi; subst hi; simp [hr _ hC, hc]
    | i + 2 => simp at hi) hs (fun D hD => by
      simp at hD
      rcases hD with rfl | rfl
      · exact hsc _ hB _
      · exact hsc _ hC _) (fun i hi => by
    simp at hi
    subst hi
    refine ⟨by simp, fun D hD => ?_⟩
    simp at hD
    subst hD
    exact hw) (fun D hD => by
      simp at hD
      rcases hD with rfl | rfl
      · exact hl _ hB
      · exact hl _ hC) (by simp [hw, hw'])
  simp only [setAll, hr _ hB', hr _ hC, List.length_cons, List.length_nil, Nat.zero_add] at this
  have e0 : kap [b, c] (1 + 1) H.length 0 = b := by simp [kap]
  have e1 : kap [b, c] (1 + 1) H.length 1 = c := by simp [kap]
  rw [e0, e1, h2.1, set_same (H := H.set b B') (by rw [List.getElem?_set_ne hne]; exact hc)] at this
  simpa using this
section
variable {o s : SheetM} {x y a b : Int}
theorem copyM_yes (h : waxP s a b) : copyM o x y s a b = { o with wet := u2 o.wet y.toNat x.toNat (s.wet b.toNat a.toNat), dye := u2 o.dye y.toNat x.toNat (s.dye b.toNat a.toNat), wax := u1 o.wax y.toNat (onU (o.wax y.toNat) x) } := by unfold copyM; rw [if_pos h]
theorem copyM_no (h : ¬ waxP s a b) : copyM o x y s a b = { o with wet := u2 o.wet y.toNat x.toNat (s.wet b.toNat a.toNat), dye := u2 o.dye y.toNat x.toNat (s.dye b.toNat a.toNat) } := by unfold copyM; rw [if_neg h]
end
def movedTo (s : SheetM) (w h : Int) (fx fy : Int → Int → Int) : Nat → SheetM
  | 0 => ⟨w, h, fun _ _ => 0, fun _ _ _ => 0, fun _ => 0⟩
  | n + 1 => copyM (movedTo s w h fx fy n) (n % w.toNat : Nat) (n / w.toNat : Nat) s (fx (n % w.toNat : Nat) (n / w.toNat : Nat)) (fy (n % w.toNat : Nat) (n / w.toNat : Nat))
section
variable {s : SheetM} {w h : Int} {fx fy : Int → Int → Int} {n : Nat}
theorem movedTo_succ : movedTo s w h fx fy (n + 1) = copyM (movedTo s w h fx fy n) (n % w.toNat : Nat) (n / w.toNat : Nat) s (fx (n % w.toNat : Nat) (n / w.toNat : Nat)) (fy (n % w.toNat : Nat) (n / w.toNat : Nat)) := rfl
end
abbrev movedM (s : SheetM) (w h : Int) (fx fy : Int → Int → Int) : SheetM := movedTo s w h fx fy (w.toNat * h.toNat)
noncomputable def okS (s m : SheetM) : SheetM := if validS s then m else zeroSheet
noncomputable def okV (s m : SheetM) : AV := .tup [.agg shSheet (sheetD (okS s m)), .int .i64 (okC s)]
theorem okV_ok {s m} (h : validS s) : okV s m = .tup [.agg shSheet (sheetD m), .int .i64 0] := by simp [okV, okS, okC, h]
theorem okV_bad {s m} (h : ¬ validS s) : okV s m = .tup [.agg shSheet (sheetD zeroSheet), .int .i64 1] := by simp [okV, okS, okC, h]
abbrev mirX (s : SheetM) : Int → Int → Int := fun x _ => s.w - 1 - x
abbrev sameY : Int → Int → Int := fun _ y => y
abbrev sameX : Int → Int → Int := fun x _ => x
abbrev turnY (s : SheetM) : Int → Int → Int := fun x _ => s.h - 1 - x
abbrev addX (a : Int) : Int → Int → Int := fun x _ => x + a
abbrev addY (b : Int) : Int → Int → Int := fun _ y => y + b
end Ink
/- What the program means: cutting, and folds. No conditions. -/
namespace Ink
open Go
theorem ACall.at2 {P : Program} {f : FuncId} {args : List AV} {v : AV} {B C : Blk} (h : ACall P [] f args [B, C] v [B, C]) (hB : noRef B = true) (hC : noRef C = true) {H : Heap} {b c : Nat} (hb : H[b]? = some B) (hc : H[c]? = some C) (hne : b ≠ c) {args' : List AV} (hs : inScopes 2 args) (ha : rens (kap [b, c] 2 H.length) args = args') (hv : plain v = true) :
    ACall P [] f args' H v H := by
  subst ha
  have hr : ∀ (B : Blk), noRef B = true → ∀ κ, renB κ B = B := fun B hB κ => by cases B <;> first | rfl | simp [noRef] at hB
  have hl : ∀ (B : Blk), noRef B = true → B.lv = true := fun B hB => by cases B <;> first | rfl | simp [noRef] at hB
  have hsc : ∀ (B : Blk), noRef B = true → ∀ n, inScopeB n B := fun B hB n => by cases B <;> first | trivial | simp [noRef] at hB
  have h2 := plain_ren (σ := kap [b, c] 2 H.length) (m := 0) hv
  have := ACall.frame (Hm := [B, C]) (Hm' := [B, C]) (N := []) h rfl (H := H) [b, c] rfl (by simp [hne]) (fun i D hi => by
    match i with
    | 0 => simp at hi; subst hi; simp [hr _ hB, hb]
    | 1 => simp at hi; subst hi; simp [hr _ hC, hc]
    | i + 2 => simp at hi) hs (fun D hD => by
      simp at hD
      rcases hD with rfl | rfl
      · exact hsc _ hB _
      · exact hsc _ hC _) (fun i hi => by simp at hi) (fun D hD => by
      simp at hD
      rcases hD with rfl | rfl
      · exact hl _ hB
      · exact hl _ hC) (by simp)
  simp only [setAll, hr _ hB, hr _ hC, List.length_cons, List.length_nil, Nat.zero_add] at this
  have e0 : kap [b, c] (1 + 1) H.length 0 = b := by simp [kap]
  have e1 : kap [b, c] (1 + 1) H.length 1 = c := by simp [kap]
  rw [e0, e1, h2.1, set_same hb, set_same hc] at this
  simpa using this
def cutP (s : SheetM) (x y w h : Int) : Prop := (1 ≤ w ∧ w ≤ s.w - x) ∧ 1 ≤ h ∧ h ≤ s.h - y
instance {s x y w h} : Decidable (cutP s x y w h) := by unfold cutP; infer_instance
/-! Folds -/
def sideM (s : SheetM) (f : FoldM) : Int := if f.down then s.h else s.w
def foldP (s : SheetM) (f : FoldM) : Prop := (1 ≤ f.axis ∧ f.axis ≤ sideM s f - 1) ∧ 1 ≤ f.press ∧ f.press ≤ 8
instance {s f} : Decidable (foldP s f) := by unfold foldP; infer_instance
end Ink
/- What the program means: sheets that are filled cell by cell in different orders read alike. No conditions. -/
namespace Ink
open Go
structure Filled (s : SheetM) (fx fy : Nat → Nat → Nat) (o : SheetM) (D : Nat → Nat → Prop) : Prop where
  yes : ∀ x y, x < 8 → y < 8 → D x y → o.wet y x = s.wet (fy x y) (fx x y) ∧ o.dye y x = s.dye (fy x y) (fx x y) ∧ ((o.wax y).toNat.testBit x = decide (waxP s (fx x y : Nat) (fy x y : Nat)))
  no : ∀ x y, x < 8 → y < 8 → ¬ D x y → o.wet y x = 0 ∧ o.dye y x = (fun _ => 0) ∧ ((o.wax y).toNat.testBit x = false)
  wax : ∀ y, 0 ≤ o.wax y ∧ o.wax y < 256
theorem Filled.zero {s : SheetM} {fx fy : Nat → Nat → Nat} {w h : Int} : Filled s fx fy ⟨w, h, fun _ _ => 0, fun _ _ _ => 0, fun _ => 0⟩ fun _ _ => False :=
  ⟨fun _ _ _ _ h => h.elim, fun _ _ _ _ _ => ⟨rfl, rfl, by simp⟩, fun _ => by simp⟩
theorem Filled.congr {s o : SheetM} {fx fy : Nat → Nat → Nat} {D E : Nat → Nat → Prop} (h : Filled s fx fy o D) (e : ∀ x y, x < 8 → y < 8 → (D x y ↔ E x y)) : Filled s fx fy o E :=
  ⟨fun x y hx hy hd => h.yes x y hx hy ((e x y hx hy).2 hd), fun x y hx hy hd => h.no x y hx hy fun q => hd ((e x y hx hy).1 q), h.wax⟩
theorem Filled.same {s a b : SheetM} {fx fy : Nat → Nat → Nat} {D : Nat → Nat → Prop} (ha : Filled s fx fy a D) (hb : Filled s fx fy b D) (hw : a.w = b.w) (hh : a.h = b.h) : sameS a b := by
  have key : ∀ y < 8, ∀ x < 8, a.wet y x = b.wet y x ∧ a.dye y x = b.dye y x ∧ (a.wax y).toNat.testBit x = (b.wax y).toNat.testBit x := by
    intro y hy x hx
    by_cases hd : D x y
    · obtain ⟨h1, h2, h3⟩ := ha.yes x y hx hy hd
      obtain ⟨g1, g2, g3⟩ := hb.yes x y hx hy hd
      exact ⟨h1.trans g1.symm, h2.trans g2.symm, h3.trans g3.symm⟩
    · obtain ⟨h1, h2, h3⟩ := ha.no x y hx hy hd
      obtain ⟨g1, g2, g3⟩ := hb.no x y hx hy hd
      exact ⟨h1.trans g1.symm, h2.trans g2.symm, h3.trans g3.symm⟩
  refine ⟨hw, hh, fun y hy x hx => (key y hy x hx).1, fun y hy x hx k _ => by rw [(key y hy x hx).2.1], fun y hy => ?_⟩
  have h1 := ha.wax y
  have h2 := hb.wax y
  have : (a.wax y).toNat = (b.wax y).toNat := by
    refine Nat.eq_of_testBit_eq fun i => ?_
    by_cases hi : i < 8
    · exact (key y hy i hi).2.2
    · have hp : 2 ^ 8 ≤ 2 ^ i := Nat.pow_le_pow_right (by omega) (by omega)
      rw [Nat.testBit_lt_two_pow (by omega), Nat.testBit_lt_two_pow (by omega)]
  omega
def before (w n : Nat) (x y : Nat) : Prop := x < w ∧ y * w + x < n
end Ink
/- What the program means: a half that is unfolded; partners. No conditions. -/
namespace Ink
open Go
def partX (f : FoldM) (x : Int) : Int := if f.down then x else 2 * f.axis - 1 - x
def partY (f : FoldM) (y : Int) : Int := if f.down then 2 * f.axis - 1 - y else y
end Ink
/- What the program means: partners told with a code, and rinsing. No conditions. -/
namespace Ink
open Go
section
variable {s : SheetM} {f : FoldM} {x y c : Int}
end
/-! Rinsing -/
def rinseBy (d share : Int) : Int := (d * share + 15).tdiv 16
theorem rinseBy_mul {d share : Int} (hd : 0 ≤ d ∧ d ≤ 1000) (hs : 1 ≤ share ∧ share ≤ 15) : 0 ≤ d * share ∧ d * share ≤ d * 15 ∧ d ≤ d * share := by
  refine ⟨Int.mul_nonneg hd.1 (by omega), Int.mul_le_mul_of_nonneg_left hs.2 hd.1, ?_⟩
  have := Int.mul_le_mul_of_nonneg_left hs.1 hd.1
  omega
theorem rinseBy_bd {d share : Int} (hd : 0 ≤ d ∧ d ≤ 1000) (hs : 1 ≤ share ∧ share ≤ 15) : 0 ≤ rinseBy d share ∧ rinseBy d share ≤ d ∧ (0 < d → 0 < rinseBy d share) := by
  have := rinseBy_mul hd hs
  unfold rinseBy
  rw [Int.tdiv_eq_ediv_of_nonneg (by omega)]
  omega
abbrev RinM := SheetM × (Nat → Int)
def rinse1 (share : Int) (st : RinM) (x y k : Nat) : RinM :=
  ({ st.1 with dye := u3 st.1.dye y x k (st.1.dye y x k - rinseBy (st.1.dye y x k) share) }, u1 st.2 k (st.2 k + rinseBy (st.1.dye y x k) share))
def rinseInk (share : Int) (st : RinM) (x y : Nat) : Nat → RinM
  | 0 => st
  | k + 1 => rinse1 share (rinseInk share st x y k) x y k
def rinseTo (s : SheetM) (share : Int) : Nat → RinM
  | 0 => (s, fun _ => 0)
  | n + 1 => rinseInk share (rinseTo s share n) (n % s.w.toNat) (n / s.w.toNat) 3
theorem rinseInk_zero {share st x y} : rinseInk share st x y 0 = st := rfl
theorem rinseInk_succ {share st x y k} : rinseInk share st x y (k + 1) = rinse1 share (rinseInk share st x y k) x y k := rfl
theorem rinseTo_zero {s share} : rinseTo s share 0 = (s, fun _ => 0) := rfl
theorem rinseTo_succ {s share n} : rinseTo s share (n + 1) = rinseInk share (rinseTo s share n) (n % s.w.toNat) (n / s.w.toNat) 3 := rfl
structure RinOk (s : SheetM) (c : Int) (st : RinM) : Prop where
  w : st.1.w = s.w
  h : st.1.h = s.h
  wet : st.1.wet = s.wet
  wax : st.1.wax = s.wax
  dye : ∀ y x k, y < 8 → x < 8 → k < 3 → 0 ≤ st.1.dye y x k ∧ st.1.dye y x k ≤ s.dye y x k
  out : ∀ y x k, ¬ (y < 8 ∧ x < 8 ∧ k < 3) → st.1.dye y x k = s.dye y x k
  sum : ∀ k, 0 ≤ st.2 k ∧ st.2 k ≤ c
def dyeOk (s : SheetM) : Prop := ∀ y x k, y < 8 → x < 8 → k < 3 → 0 ≤ s.dye y x k ∧ s.dye y x k ≤ 1000
theorem u3_at {α : Type} {f : Nat → Nat → Nat → α} {i j k i' j' k' : Nat} {v : α} : u3 f i j k v i' j' k' = if i' = i ∧ j' = j ∧ k' = k then v else f i' j' k' := by
  unfold u3 u2 u1
  by_cases h : i' = i
  · subst h
    by_cases h2 : j' = j
    · subst h2
      by_cases h3 : k' = k <;> simp [h3]
    · simp [h2]
  · simp [h]
theorem u1_at {α : Type} {f : Nat → α} {i i' : Nat} {v : α} : u1 f i v i' = if i' = i then v else f i' := rfl
theorem RinOk.step {s : SheetM} {c share : Int} {st : RinM} {x y k : Nat} (hd : dyeOk s) (hs : 1 ≤ share ∧ share ≤ 15) (h : RinOk s c st) (hx : x < 8) (hy : y < 8) (hk : k < 3) : RinOk s (c + 1000) (rinse1 share st x y k) := by
  have h1 := h.dye y x k hy hx hk
  have h2 := hd y x k hy hx hk
  have hb := rinseBy_bd (d := st.1.dye y x k) (share := share) (by omega) hs
  refine ⟨h.w, h.h, h.wet, h.wax, fun b a q hb' ha hq => ?_, fun b a q hn => ?_, fun q => ?_⟩
  · show 0 ≤ u3 st.1.dye y x k _ b a q ∧ u3 st.1.dye y x k _ b a q ≤ _
    rw [u3_at]
    split
    · rename_i e
      obtain ⟨rfl, rfl, rfl⟩ := e
      omega
    · exact h.dye b a q hb' ha hq
  · show u3 st.1.dye y x k _ b a q = _
    rw [u3_at, if_neg (fun e => hn ⟨by omega, by omega, by omega⟩)]
    exact h.out b a q hn
  · show 0 ≤ u1 st.2 k _ q ∧ u1 st.2 k _ q ≤ _
    have h3 := h.sum q
    have h4 := h.sum k
    rw [u1_at]
    split <;> omega
theorem RinOk.ink {s : SheetM} {c share : Int} {st : RinM} {x y : Nat} (hd : dyeOk s) (hs : 1 ≤ share ∧ share ≤ 15) (h : RinOk s c st) (hx : x < 8) (hy : y < 8) : ∀ k : Nat, k ≤ 3 → RinOk s (c + 1000 * (k : Int)) (rinseInk share st x y k) := by
  intro k
  induction k with
  | zero => intro _; rw [rinseInk_zero]; simpa using h
  | succ k ih =>
    intro hk
    have := (ih (by omega)).step hd hs hx hy (k := k) (by omega)
    rw [rinseInk_succ]
    have e : c + 1000 * ((k + 1 : Nat) : Int) = c + 1000 * (k : Int) + 1000 := by omega
    rw [e]; exact this
theorem RinOk.to {s : SheetM} {share : Int} (hd : dyeOk s) (hs : 1 ≤ share ∧ share ≤ 15) (hm : small s) : ∀ n : Nat, n ≤ s.w.toNat * s.h.toNat → RinOk s (3000 * (n : Int)) (rinseTo s share n) := by
  intro n
  induction n with
  | zero => exact fun _ => ⟨rfl, rfl, rfl, rfl, fun y x k hy hx hk => ⟨(hd y x k hy hx hk).1, Int.le_refl _⟩, fun _ _ _ _ => rfl, fun _ => by simp [rinseTo_zero]⟩
  | succ n ih =>
    intro hn
    have hc := cell_in (w := s.w.toNat) (h := s.h.toNat) (n := n) (by omega)
    have := (ih (by omega)).ink hd hs (x := n % s.w.toNat) (y := n / s.w.toNat) (by omega) (by omega) 3 (by omega)
    rw [rinseTo_succ]
    have e : (3000 : Int) * ((n + 1 : Nat) : Int) = 3000 * (n : Int) + 1000 * ((3 : Nat) : Int) := by omega
    rw [e]; exact this
end Ink
/- What the program means: pairs of partners. No conditions. -/
namespace Ink
open Go
structure PairM where
  ax : Int
  ay : Int
  bx : Int
  by' : Int
section
variable {a b c d x y : Int} {p : List Nat}
end
def firstP (f : FoldM) (x y : Int) : Prop := (if f.down then y else x) < f.axis
def pairP (s : SheetM) (f : FoldM) (x y : Int) : Prop := firstP f x y ∧ hasP s (partX f x) (partY f y) ∧ ¬ waxP s x y ∧ ¬ waxP s (partX f x) (partY f y)
noncomputable instance {s f x y} : Decidable (pairP s f x y) := Classical.propDecidable _
noncomputable def pairsTo (s : SheetM) (f : FoldM) : Nat → List PairM
  | 0 => []
  | n + 1 => if pairP s f (n % s.w.toNat : Nat) (n / s.w.toNat : Nat) then pairsTo s f n ++ [⟨(n % s.w.toNat : Nat), (n / s.w.toNat : Nat), partX f (n % s.w.toNat : Nat), partY f (n / s.w.toNat : Nat)⟩] else pairsTo s f n
section
variable {s : SheetM} {f : FoldM} {n : Nat}
end
noncomputable abbrev pairsM (s : SheetM) (f : FoldM) : List PairM := pairsTo s f (s.w.toNat * s.h.toNat)
theorem map_get {α β : Type} {l : List α} {g : α → β} {i : Nat} {a : α} (h : l[i]? = some a) : (l.map g)[i]? = some (g a) := by rw [List.getElem?_map, h]; rfl
end Ink
/- What the program means: brushes. No conditions. -/
namespace Ink
open Go
def brushP (b : BrushM) : Prop := (∀ k < 3, 0 ≤ b.dye k ∧ b.dye k ≤ 900) ∧ b.dye 0 + b.dye 1 + b.dye 2 ≤ 900 ∧ (0 ≤ b.water ∧ b.water ≤ 200) ∧ 1 ≤ b.share ∧ b.share ≤ 16
noncomputable instance {b} : Decidable (brushP b) := Classical.propDecidable _
def minM (a b : Int) : Int := if a < b then a else b
section
variable {s : SheetM} {b : BrushM} {x y c : Int}
end
end Ink
