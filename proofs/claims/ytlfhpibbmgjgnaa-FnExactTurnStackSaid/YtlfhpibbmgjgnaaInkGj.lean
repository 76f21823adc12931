/- Contracts of functions of the program, by the texts that it imports. No conditions. -/
import Derived.Test.YtlfhpibbmgjgnaaInkGi
import Derived.Test.YtlfhpibbmgjgnaaInkGg
import Derived.Test.YtlfhpibbmgjgnaaInkGd
import Derived.Test.YtlfhpibbmgjgnaaInkGh
import Derived.RangeFuncNested
import Derived.RangeFuncLeaves
set_option linter.unusedVariables false
set_option linter.unusedSimpArgs false
/- Writers of two blocks that look at a third one; what the program means: the least share. No conditions. -/
namespace Ink
open Go
section
variable {s : SheetM} {b : BrushM} {N : List SpotM} {least : Int} {k : Nat}
end
end Ink
/- What the program means: rinsing till a sheet is light. No conditions. -/
namespace Ink
open Go
section
variable {s : SheetM} {share : Int} {st : RinM} {x y k : Nat}
end
section
variable {s : SheetM} {share level c : Int} {i : Nat}
end
end Ink
/- What the program means: pressing a fold. No conditions. -/
namespace Ink
open Go
set_option linter.unusedVariables false
def goes (a b w : Int) : Int := if b < a then ((a - b) * w).tdiv 16 else -(((b - a) * w).tdiv 16)
abbrev PrsM := SheetM × Int
structure Prs (s t : SheetM) : Prop where
  ok : t.Ok
  dye : dyeOk t
  wet : wetOk t
  w : t.w = s.w
  h : t.h = s.h
theorem Prs.small {s t : SheetM} (h : Prs s t) (hm : small s) : small t := by
  have := h.w; have := h.h
  unfold Ink.small at *
  omega
section
variable {s t : SheetM} {p : PairM} {k : Nat} {w d : Int}
end
structure PrsOk (s : SheetM) (c : Int) (st : PrsM) : Prop where
  ok : Prs s st.1
  n : 0 ≤ st.2 ∧ st.2 ≤ c
section
variable {s : SheetM} {p : PairM} {k : Nat} {w c : Int} {st : PrsM}
end
section
variable {s : SheetM} {f : FoldM} {most c : Int} {k : Nat}
end
end Ink
/- What one passing over reads and writes. No conditions. -/
namespace Ink
open Go
set_option linter.unusedVariables false
section
variable {t : SheetM} {p : PairM} {k : Nat} {w d : Int}
end
end Ink
/- Lists of sheets that come from outside, and lists of sheets that are filled. No conditions. -/
namespace Ink
open Go Go.ChangeShapes Go.WideShapes Go.RowKit
def valI : DV → Int
  | .int _ n => n
  | _ => 0
def nth : DV → Nat → DV
  | .arr f, i => f i
  | d, _ => d
theorem wfu8 {n : Int} (h : (Lit.int .u8 n).wf = true) : 0 ≤ n ∧ n < 256 := by
  simp [Lit.wf, IntKind.min, IntKind.max, IntKind.signed, IntKind.bits] at h; omega
theorem leaf_of {k : IntKind} {v : DV} (h : Has (.int k) v) (hw : Wf (.int k) v) : v = .int k (valI v) ∧ (Lit.int k (valI v)).wf = true := by
  match v, h, hw with
  | .int j n, h, hw => cases h; exact ⟨rfl, hw⟩
theorem arr_of {n : Nat} {e : Sh} {v : DV} (h : Has (.arr n e) v) (hw : Wf (.arr n e) v) : (∀ i, i < n → Has e (nth v i) ∧ Wf e (nth v i)) ∧ flat (.arr n e) v = (List.range n).flatMap fun i => flat e (nth v i) := by
  match v, h, hw with
  | .arr f, h, hw => exact ⟨fun i hi => ⟨h i hi, hw i hi⟩, rfl⟩
theorem flat_arr {n : Nat} {e : Sh} {f : Nat → DV} : flat (.arr n e) (.arr f) = (List.range n).flatMap fun i => flat e (f i) := rfl
theorem sheetX_of {v : DV} (h : Has shSheet v) (hw : Wf shSheet v) : ∃ s : SheetM, s.Ok ∧ flat shSheet v = flat shSheet (sheetD s) := by
  match v, h, hw with
  | .cons (.int _ a) (.cons (.int _ b) (.cons vw (.cons vd (.cons vx .unit)))), h, hw =>
    obtain ⟨rfl, rfl, h3, h4, h5, _⟩ := h
    obtain ⟨w1, w2, w3, w4, w5, _⟩ := hw
    obtain ⟨p3, q3⟩ := arr_of h3 w3
    obtain ⟨p4, q4⟩ := arr_of h4 w4
    obtain ⟨p5, q5⟩ := arr_of h5 w5
    have r3 := fun i (hi : i < 8) => arr_of (p3 i hi).1 (p3 i hi).2
    have r4 := fun i (hi : i < 8) => arr_of (p4 i hi).1 (p4 i hi).2
    have t4 := fun i (hi : i < 8) j (hj : j < 8) => arr_of ((r4 i hi).1 j hj).1 ((r4 i hi).1 j hj).2
    have l3 := fun i (hi : i < 8) j (hj : j < 8) => leaf_of ((r3 i hi).1 j hj).1 ((r3 i hi).1 j hj).2
    have l4 := fun i (hi : i < 8) j (hj : j < 8) k (hk : k < 3) => leaf_of ((t4 i hi j hj).1 k hk).1 ((t4 i hi j hj).1 k hk).2
    have l5 := fun i (hi : i < 8) => leaf_of (p5 i hi).1 (p5 i hi).2
    refine ⟨⟨a, b, fun i j => if i < 8 ∧ j < 8 then valI (nth (nth vw i) j) else 0, fun i j k => if i < 8 ∧ j < 8 ∧ k < 3 then valI (nth (nth (nth vd i) j) k) else 0, fun i => if i < 8 then valI (nth vx i) else 0⟩, ⟨wf8 w1, wf8 w2, fun i j => ?_, fun i j k => ?_, fun i => ?_⟩, ?_⟩
    · dsimp only
      split
      · rename_i hc; exact wf16 (l3 i hc.1 j hc.2).2
      · omega
    · dsimp only
      split
      · rename_i hc; exact wf16 (l4 i hc.1 j hc.2.1 k hc.2.2).2
      · omega
    · dsimp only
      split
      · rename_i hc; exact wfu8 (l5 i hc).2
      · omega
    · have f3 : flat (.arr 8 (.arr 8 (.int .i16))) vw = flat (.arr 8 (.arr 8 (.int .i16))) (a2 .i16 fun i j => if i < 8 ∧ j < 8 then valI (nth (nth vw i) j) else 0) := by
        rw [q3]
        unfold a2
        rw [flat_arr]
        refine flatMap_ext fun i hi => ?_
        rw [(r3 i hi).2]
        unfold a1
        rw [flat_arr]
        refine flatMap_ext fun j hj => ?_
        dsimp only
        rw [(l3 i hi j hj).1, if_pos ⟨hi, hj⟩]
        rfl
      have f4 : flat (.arr 8 (.arr 8 (.arr 3 (.int .i16)))) vd = flat (.arr 8 (.arr 8 (.arr 3 (.int .i16)))) (a3 .i16 fun i j k => if i < 8 ∧ j < 8 ∧ k < 3 then valI (nth (nth (nth vd i) j) k) else 0) := by
        rw [q4]
        unfold a3
        rw [flat_arr]
        refine flatMap_ext fun i hi => ?_
        rw [(r4 i hi).2]
        unfold a2
        rw [flat_arr]
        refine flatMap_ext fun j hj => ?_
        rw [(t4 i hi j hj).2]
        unfold a1
        rw [flat_arr]
        refine flatMap_ext fun k hk => ?_
        dsimp only
        rw [(l4 i hi j hj k hk).1, if_pos ⟨hi, hj, hk⟩]
        rfl
      have f5 : flat (.arr 8 (.int .u8)) vx = flat (.arr 8 (.int .u8)) (a1 .u8 fun i => if i < 8 then valI (nth vx i) else 0) := by
        rw [q5]
        unfold a1
        rw [flat_arr]
        refine flatMap_ext fun i hi => ?_
        dsimp only
        rw [(l5 i hi).1, if_pos hi]
        rfl
      show [Value.int .i8 a] ++ ([Value.int .i8 b] ++ (flat _ vw ++ (flat _ vd ++ (flat _ vx ++ [])))) = [Value.int .i8 a] ++ ([Value.int .i8 b] ++ (flat _ (a2 .i16 _) ++ (flat _ (a3 .i16 _) ++ (flat _ (a1 .u8 _) ++ []))))
      rw [f3, f4, f5]
/-! ### Lists of sheets -/
def fillS (N : List SheetM) (i : Nat) : List DV := (N.take i ++ List.replicate (N.length - i) zeroSheet).map sheetD
section
variable {N : List SheetM} {i : Nat}
theorem fillS_zero : fillS N 0 = List.replicate N.length (sheetD zeroSheet) := by unfold fillS; simp
theorem fillS_all : fillS N N.length = N.map sheetD := by unfold fillS; simp
theorem fillS_get (h : i < N.length) : (fillS N i)[i]? = some (sheetD zeroSheet) := by
  unfold fillS
  rw [List.getElem?_map, List.getElem?_append_right (by simp; omega), List.getElem?_replicate]
  rw [if_pos (by simp; omega)]
  rfl
theorem fillS_set (h : i < N.length) : (fillS N i).set i (sheetD N[i]) = fillS N (i + 1) := by
  unfold fillS
  rw [← List.map_set]
  congr 1
  rw [List.set_append_right _ _ (by simp; omega), List.take_succ_eq_append_getElem h, List.append_assoc]
  congr 1
  rw [show i - (N.take i).length = 0 by simp; omega, show N.length - i = (N.length - (i + 1)) + 1 by omega, List.replicate_succ]
  rfl
end
end Ink
/- A reader that is proved for a view of one value (a window of one) reads a value that lies anywhere in a block. No conditions. -/
namespace Ink
open Go
def freeA : AV → Bool
  | .int _ _ => true
  | .bool _ => true
  | .str _ => true
  | .agg _ _ => true
  | .slc (_ + 1) _ _ => true
  | _ => false
theorem freeA_Rv {a : AV} (h : freeA a = true) {ρ : Nat → Nat} {S S' : BSh} {T : List BSh} {w : World} {x : Value} (hr : Rv ρ (S :: T) w a x) : Rv ρ (S' :: T) w a x := by
  cases a with
  | slc b lo len =>
    cases b with
    | zero => simp [freeA] at h
    | succ b => exact hr
  | int _ _ => exact hr
  | bool _ => exact hr
  | str _ => exact hr
  | agg _ _ => exact hr
  | _ => simp [freeA] at h
theorem freeA_Rvs {S S' : BSh} {T : List BSh} {ρ : Nat → Nat} {w : World} : ∀ {l : List AV} {vs : List Value}, l.all freeA = true → Rvs ρ (S :: T) w l vs → Rvs ρ (S' :: T) w l vs
  | [], [], _, h => h
  | a :: l, v :: vs, hp, h => by
    simp only [List.all_cons, Bool.and_eq_true] at hp
    exact ⟨freeA_Rv hp.1 h.1, freeA_Rvs hp.2 h.2⟩
  | [], _ :: _, _, h => h.elim
  | _ :: _, [], _, h => h.elim
theorem noRef_RB {B : Blk} (h : noRef B = true) {ρ ρ' : Nat → Nat} {S S' : List BSh} {w w' : World} {o : Option Obj} (hr : RB ρ S w B o) : RB ρ' S' w' B o := by
  cases B with
  | ref _ => simp [noRef] at h
  | dead _ => simp [noRef] at h
  | obj _ => exact hr
  | data _ _ => exact hr
  | seq _ _ _ => exact hr
  | win _ _ _ => exact hr
def Lies (B : Blk) (p : List Nat) (o : Nat) (σ : Sh) (x : DV) : Prop :=
  (B.sh).at? p = some (o, σ) ∧ noRef B = true ∧ ∀ ρ S w ob, RB ρ S w B ob → RB ρ S w (.win o σ [x]) ob
theorem Lies.data {σ : Sh} {x : DV} : Lies (.data σ x) [] 0 σ x := by
  refine ⟨by simp [Blk.sh, BSh.at?, Sh.at?], rfl, fun ρ S w ob h => ?_⟩
  obtain ⟨h1, T, h2⟩ := h
  refine ⟨fun y hy => ?_, _, T, _, h2, ?_⟩
  · simp at hy; subst hy; exact h1
  · simpa using LiesAt.self (flat σ x)
theorem Lies.seq {wr : Bool} {σ : Sh} {D : List DV} {i : Nat} {x : DV} (hx : D[i]? = some x) : Lies (.seq wr σ D) [i] (i * σ.size) σ x := by
  refine ⟨by simp [Blk.sh, BSh.at?, Sh.at?], rfl, fun ρ S w ob h => ?_⟩
  obtain ⟨h1, c, T, fz, h2, h3, _⟩ := h
  refine ⟨fun y hy => ?_, c, T, fz, h2, ?_⟩
  · simp at hy; subst hy; exact h1 _ (List.mem_of_getElem? hx)
  · simpa using (flatMap_at h1 hx).upto h3
theorem ACall.view {P : Program} {f : FuncId} {rest : List AV} {σ : Sh} {x : DV} {v : AV} {N : Heap} (h : ∀ o, ACall P [] f (.ptr 0 [0] σ :: rest) [.win o σ [x]] v (.win o σ [x] :: N)) (hrest : rest.all freeA = true) (hv : freeA v = true) (hN : noRefs N = true)
    {B : Blk} {p : List Nat} {o : Nat} (hB : Lies B p o σ x) : ACall P [] f (.ptr 0 p σ :: rest) [B] v (B :: N) := by
  refine ⟨(h 0).1, fun ρ w vs hR hA => ?_⟩
  obtain ⟨hat, hnr, hwin⟩ := hB
  cases vs with
  | nil => exact hA.elim
  | cons y ys =>
    obtain ⟨⟨s, o', hs, ho, hy⟩, hys⟩ := hA
    have hs' : s = B.sh := by
      have : (shs [B])[0]? = some B.sh := rfl
      rw [this] at hs; cases hs; rfl
    subst hs'
    rw [hat] at ho
    cases ho
    have hb0 : RB ρ (shs [B]) w B w.heap[ρ 0]? := hR.blk 0 B rfl
    have hR' : Rel ρ [.win o σ [x]] w := by
      refine ⟨fun i C hi => ?_, fun i j C D hi hj hne _ _ => ?_⟩
      · cases i with
        | zero =>
          simp at hi
          subst hi
          exact noRef_RB (B := .win o σ [x]) rfl (hwin _ _ _ _ hb0)
        | succ i => simp at hi
      · have := get_lt hi
        have := get_lt hj
        simp at *
        omega
    have hA' : Rvs ρ (shs [.win o σ [x]]) w (.ptr 0 [0] σ :: rest) (y :: ys) :=
      ⟨⟨.win o σ, o, rfl, by simp [BSh.at?, Sh.at?], hy⟩, freeA_Rvs hrest hys⟩
    refine ((h o).2 ρ w (y :: ys) hR' hA').mono fun e w' hq => ?_
    obtain ⟨r, ρ', rfl, inv, hr⟩ := hq
    have hsz : ρ 0 < w.heap.size := by
      rcases hw : w.heap[ρ 0]? with _ | ob
      · rw [hw] at hb0
        have := hwin _ _ _ _ hb0
        obtain ⟨_, c, T, fz, h2, _⟩ := this
        cases h2
      · exact (Array.getElem?_eq_some_iff.1 hw).1
    have hpre : ρ' 0 = ρ 0 := inv.pre 0 (by simp [shs])
    have hold : w'.heap[ρ 0]? = w.heap[ρ 0]? := inv.old (ρ 0) trivial hsz fun i hi => by simp at hi
    have hnew : ∀ j, j < N.length → w.heap.size ≤ ρ' (j + 1) := fun j hj => inv.new (j + 1) (by simp [shs]) (by simpa using hj) trivial
    refine ⟨r, ρ', rfl, ⟨⟨fun i C hi => ?_, fun i j C D hi hj hne hC hD => ?_⟩, inv.os, inv.tape, inv.out, inv.size, fun b _ hb _ => inv.old b trivial hb fun i hi => by simp at hi, inv.sz, fun i hi => inv.pre i (by simpa [shs] using hi), fun i h1 h2 _ => inv.new i (by simpa [shs] using h1) (by simpa using h2) trivial, ⟨shs N, rfl⟩⟩, ?_⟩
    · cases i with
      | zero =>
        simp at hi
        subst hi
        rw [hpre, hold]
        exact noRef_RB hnr hb0
      | succ i =>
        have hi' : N[i]? = some C := by simpa using hi
        have := inv.rel.blk (i + 1) C (by simpa using hi)
        exact noRef_RB (List.all_eq_true.1 hN _ (List.mem_of_getElem? hi')) this
    · cases i with
      | zero =>
        cases j with
        | zero => exact absurd rfl hne
        | succ j =>
          have := hnew j (get_lt (show N[j]? = some D by simpa using hj))
          rw [hpre]; omega
      | succ i =>
        cases j with
        | zero =>
          have := hnew i (get_lt (show N[i]? = some C by simpa using hi))
          rw [hpre]; omega
        | succ j => exact inv.rel.sep (i + 1) (j + 1) C D (by simpa using hi) (by simpa using hj) hne hC hD
    · exact freeA_Rv hv hr
theorem ACall.viewAt {P : Program} {f : FuncId} {rest : List AV} {σ : Sh} {x : DV} {v : AV} (h : ∀ o, ACall P [] f (.ptr 0 [0] σ :: rest) [.win o σ [x]] v [.win o σ [x]]) (hrest : rest.all freeA = true) (hrp : plains rest = true) (hv : freeA v = true) (hvp : plain v = true)
    {H : Heap} {b : Nat} {B : Blk} {p : List Nat} {o : Nat} (hb : H[b]? = some B) (hB : Lies B p o σ x) : ACall P [] f (.ptr b p σ :: rest) H v H := by
  refine (ACall.view (N := []) h hrest hv rfl hB).at1 hB.2.1 hb ?_ ?_ hvp
  · exact ⟨by simp [inScope], (plains_ren (σ := id) hrp).2⟩
  · show (ren _ _ :: rens _ _) = _
    rw [(plains_ren (m := 0) hrp).1]
    simp [ren, kap]
theorem ACall.viewNew {P : Program} {f : FuncId} {σ : Sh} {x : DV} {n : Nat} {e : Sh} {D : List DV} (h : ∀ o, ACall P [] f [.ptr 0 [0] σ] [.win o σ [x]] (.slc 1 0 n) [.win o σ [x], .seq true e D])
    {H : Heap} {b : Nat} {B : Blk} {p : List Nat} {o : Nat} (hb : H[b]? = some B) (hB : Lies B p o σ x) : ACall P [] f [.ptr b p σ] H (.slc H.length 0 n) (H ++ [.seq true e D]) := by
  have hr : ∀ κ, renB κ B = B := fun κ => by have := hB.2.1; cases B <;> first | rfl | simp [noRef] at this
  have hl : B.lv = true := by have := hB.2.1; cases B <;> first | rfl | simp [noRef] at this
  have hsc : inScopeB 1 B := by have := hB.2.1; cases B <;> first | trivial | simp [noRef] at this
  have := ACall.frame1 (ACall.view (N := [.seq true e D]) h rfl rfl rfl hB) hb hr hr (by simp [inScopes, inScope]) hsc (by simp) (Or.inl rfl) hl rfl
  simpa [rens, ren, kap, renB, set_same hb] using this
end Ink
/- What the program means: stacks. No conditions. -/
namespace Ink
open Go
def hdS (L : List SheetM) : SheetM := L.headD zeroSheet
def sameW (L : List SheetM) (s : SheetM) : Prop := s.w = (hdS L).w ∧ s.h = (hdS L).h
instance {L s} : Decidable (sameW L s) := by unfold sameW; infer_instance
noncomputable def badS (L : List SheetM) (s : SheetM) : Bool := !decide (validS s) || !decide (sameW L s)
def stackP (L : List SheetM) : Prop := L.length ≤ 6 ∧ ∀ s ∈ L, validS s ∧ sameW L s
noncomputable instance {L} : Decidable (stackP L) := Classical.propDecidable _
section
variable {L : List SheetM} {i : Nat} {s : SheetM}
theorem badS_iff : badS L s = false ↔ validS s ∧ sameW L s := by
  unfold badS
  rw [Bool.or_eq_false_iff, Bool.not_eq_false', Bool.not_eq_false', decide_eq_true_eq, decide_eq_true_eq]
theorem hd_get (h : 0 < L.length) : L[0]? = some (hdS L) := by
  cases L with
  | nil => simp at h
  | cons a l => rfl
theorem stack_any : L.any (badS L) = false ↔ ∀ s ∈ L, validS s ∧ sameW L s := by
  rw [List.any_eq_false]
  constructor
  · intro h s hs
    exact badS_iff.1 (by have := h s hs; simpa using this)
  · intro h s hs
    rw [badS_iff.2 (h s hs)]
    decide
theorem stack_ok (h : L.length ≤ 6) (ha : L.any (badS L) = false) : stackP L := ⟨h, stack_any.1 ha⟩
theorem stack_no (ha : L.any (badS L) = true) : ¬ stackP L := fun h => by
  have := stack_any.2 h.2
  rw [ha] at this
  cases this
theorem stack_big (h : ¬ L.length ≤ 6) : ¬ stackP L := fun g => h g.1
theorem stack_at (h : stackP L) (hi : i < L.length) : validS L[i] ∧ sameW L L[i] := h.2 _ (List.getElem_mem hi)
end
noncomputable def stC (L : List SheetM) (r : Bool) : Int := if ¬ stackP L then 1 else if r = true then 0 else 2
theorem stC_cases (L : List SheetM) (r : Bool) : (stC L r = 0 ∧ stackP L ∧ r = true) ∨ (stC L r = 1 ∧ ¬ stackP L) ∨ (stC L r = 2 ∧ stackP L ∧ r = false) := by
  unfold stC
  by_cases h : stackP L
  · cases r <;> simp [h]
  · simp [h]
/-! Dyes and water of a stack -/
theorem nS_all {N : List SheetM} (h : ∀ s ∈ N, s.Ok) : ∀ s ∈ N.map nS, s.Ok := fun s hs => by
  obtain ⟨t, ht, rfl⟩ := List.mem_map.1 hs
  exact nS_Ok (h t ht)
theorem nS_len {N : List SheetM} {c : Nat} (h : N.length ≤ c) : (N.map nS).length ≤ c := by rw [List.length_map]; exact h
theorem nil_all : ∀ s ∈ ([] : List SheetM), s.Ok := fun s h => by simp at h
end Ink
/- What the program means: drying of stacks. No conditions. -/
namespace Ink
open Go
set_option linter.unusedVariables false
section
variable {s t : SheetM} {b : Int} {n m N : Nat}
end
structure Dry (s t : SheetM) : Prop where
  ok : t.Ok
  wet : wetOk t
  w : t.w = s.w
  h : t.h = s.h
  out : ∀ y < 8, ∀ x < 8, ¬ (x < s.w.toNat ∧ y < s.h.toNat) → t.wet y x = 0
section
variable {s t : SheetM} {b : Int} {n m N : Nat}
theorem Dry.small (h : Dry s t) (hm : small s) : small t := by
  have := h.w; have := h.h
  unfold Ink.small at *
  omega
end
/-! Stacks -/
section
variable {L M : List SheetM} {rate : Int} {i j : Nat} {s : SheetM}
theorem getD_of (h : i < L.length) : L.getD i zeroSheet = L[i] := by rw [List.getD_eq_getElem?_getD, List.getElem?_eq_getElem h]; rfl
end
structure DryL (L M : List SheetM) : Prop where
  len : M.length = L.length
  at_ : ∀ (i : Nat) (h : i < M.length) (h' : i < L.length), Dry L[i] M[i]
section
variable {L M : List SheetM} {rate : Int} {i j : Nat} {s : SheetM}
theorem DryL.set (h : DryL L M) (hi : i < L.length) (hs : Dry L[i] s) : DryL L (M.set i s) := by
  refine ⟨by simpa using h.len, fun j h1 h2 => ?_⟩
  rw [List.getElem_set]
  split
  · rename_i e; subst e; exact hs
  · exact h.at_ j (by simpa using h1) h2
end
section
variable {L : List SheetM} {rate c : Int} {k : Nat}
theorem set_map {X : List SheetM} {i : Nat} {u u' : SheetM} : ((X.set i u).map sheetD).set i (sheetD u') = (X.set i u').map sheetD := by rw [← List.map_set, List.set_set]
theorem setEl_get {X : List SheetM} {i : Nat} {u : SheetM} (h : i < X.length) : ((X.set i u).map sheetD)[i]? = some (sheetD u) := by
  rw [List.getElem?_map, List.getElem?_set_self h]; rfl
end
end Ink
/- What the laws do with stacks: marks that are set and looked at. No conditions. -/
namespace Ink
open Go
def mkWax (k : Int) (s : SheetM) : Nat → SheetM
  | 0 => s
  | j + 1 => { mkWax k s j with wax := u1 (mkWax k s j).wax j (IntKind.u8.wrap (k + j)) }
def mkHd (k : Int) (s : SheetM) : SheetM := { s with w := IntKind.i8.wrap k, h := IntKind.i8.wrap (k + 1) }
def mkS (k : Int) (s : SheetM) : SheetM := mkWax (k + 2) (mkHd k s) 8
def markTo (L : List SheetM) (k : Int) : Nat → List SheetM
  | 0 => L
  | i + 1 => (markTo L k i).set i (mkS (k + 10 * (i : Int)) (L.getD i zeroSheet))
section
variable {L : List SheetM} {k : Int} {s : SheetM} {i j n : Nat}
theorem mkWax_zero : mkWax k s 0 = s := rfl
theorem mkWax_succ : mkWax k s (j + 1) = { mkWax k s j with wax := u1 (mkWax k s j).wax j (IntKind.u8.wrap (k + j)) } := rfl
theorem mkWax_wh : (mkWax k s j).w = s.w ∧ (mkWax k s j).h = s.h := by
  induction j with
  | zero => exact ⟨rfl, rfl⟩
  | succ j ih => exact ih
theorem mkWax_at (h : i < j) : (mkWax k s j).wax i = IntKind.u8.wrap (k + i) := by
  induction j with
  | zero => omega
  | succ j ih =>
    rw [mkWax_succ]
    dsimp only
    rw [u1_at]
    by_cases e : i = j
    · subst e; rw [if_pos rfl]
    · rw [if_neg e]; exact ih (by omega)
theorem mkS_w : (mkS k s).w = IntKind.i8.wrap k := mkWax_wh.1
theorem mkS_h : (mkS k s).h = IntKind.i8.wrap (k + 1) := mkWax_wh.2
theorem mkS_wax (h : j < 8) : (mkS k s).wax j = IntKind.u8.wrap (k + 2 + j) := mkWax_at h
theorem markTo_zero : markTo L k 0 = L := rfl
theorem markTo_len : (markTo L k i).length = L.length := by
  induction i with
  | zero => rfl
  | succ i ih => rw [markTo]; simpa using ih
theorem markTo_later (h : i ≤ j) : (markTo L k i)[j]? = L[j]? := by
  induction i with
  | zero => rfl
  | succ i ih =>
    rw [markTo, List.getElem?_set_ne (by omega)]
    exact ih (by omega)
theorem markTo_succ (h : i < L.length) : markTo L k (i + 1) = (markTo L k i).set i (mkS (k + 10 * (i : Int)) L[i]) := by rw [markTo, getD_of h]
theorem markTo_at : ∀ n, n ≤ L.length → ∀ i < n, ∃ s, (markTo L k n)[i]? = some (mkS (k + 10 * (i : Int)) s) := by
  intro n
  induction n with
  | zero => intro _ i h; omega
  | succ n ih =>
    intro hn i hi
    rw [markTo_succ hn]
    by_cases e : i = n
    · subst e
      exact ⟨_, List.getElem?_set_self (by rw [markTo_len]; exact hn)⟩
    · rw [List.getElem?_set_ne (fun g => e g.symm)]
      exact ih (by omega) i (by omega)
end
end Ink
/- Lists of numbers: what a stack's sheets are reached by, and marks. No conditions. -/
namespace Ink
open Go
section
variable {L : List SheetM} {X : List Int} {q i j : Nat} {k : Int}
end
end Ink
/- A sheet taken out of a list. No conditions. -/
namespace Ink
open Go
section
variable {L : List SheetM} {i : Nat}
end
end Ink
/- Code within a round of a range over a function; what a call keeps of what it does not know. No conditions. -/
namespace Ink
open Go

def noDefer (o : Oper) : Bool := match o.op with | .defer _ => false | _ => true
def plainOps (ops : Array Oper) : Bool := ops.toList.all noDefer
theorem plainOps_spec {ops : Array Oper} (h : plainOps ops = true) {i : Nat} {o : Oper} (ho : ops[i]? = some o) : ∀ c, o.op ≠ .defer c := by
  intro c hc
  have := List.all_eq_true.1 h o (by rw [← Array.getElem?_toList] at ho; exact List.mem_of_getElem? ho)
  simp [noDefer, hc] at this

def RF (r : Option Nat) : Fence := { Fence.wide with round := r }

theorem rows_in {r : Option Nat} {n : Nat} {P : Program} {row : String} {args : Array Value} {w : World} {R : Value → World → Prop} (h : Rows P row args w R) : RowsIn (RF r) n P row args w R :=
  fun c cs _ => let ⟨v, w', hR, hs⟩ := h c cs; ⟨v, w', hR, (stepsIn_wide.2 hs : StepsIn (Machine.fenced P Fence.wide) P _ _)⟩
theorem calls_in {r : Option Nat} {n : Nat} {P : Program} {f : FuncId} {args : Array Value} {w : World} {R : Ending → World → Prop} (h : Calls P f args w R) : CallsIn (RF r) n P f args w R :=
  (callsIn_wide.2 h : CallsIn Fence.wide n P f args w R)

theorem oper_in {r : Option Nat} {n : Nat} {P : Program} {o : Oper} {a : Act} {w : World} {K K' : Act → World → Prop} {Q Q' : Exit → Act → World → Prop} (hd : ∀ c, o.op ≠ .defer c)
    (hK : ∀ a w, K a w → K' a w) (hp : ∀ c a w, Q (.panic c) a w → Q' (.panic c) a w) (ho : ∀ a w, ¬ Q .outgrown a w) (h : o.wp P a w K Q) : o.wpIn (RF r) n P a w K' Q' := by
  refine ⟨fun _ _ => trivial, ?_⟩
  rw [Oper.semAt_eq _ _ _ hd]
  unfold Oper.wp at h
  have hR : ∀ (e : Ending) (w' : World), (match e, w' with
      | .returned v, w'' => K (a.put o.dst v) w''
      | .panicked chain, w'' => Q (.panic chain) a w''
      | .outgrown, _ => LetsOut Q) → (match e, w' with
      | .returned v, w'' => K' (a.put o.dst v) w''
      | .panicked chain, w'' => Q' (.panic chain) a w''
      | .outgrown, _ => LetsOut Q') := by
    intro e w' h
    cases e with
    | returned v => exact hK _ _ h
    | panicked chain => exact hp _ _ _ h
    | outgrown => obtain ⟨a', w'', h⟩ := h; exact absurd h (ho _ _)
  generalize (execOp a.eval o).run P w = res at h ⊢
  cases res with
  | ok v w' =>
    cases v with
    | value v => exact hK _ _ h
    | skip => exact hK _ _ h
    | defer d => exact hK _ _ h
    | enter f args => exact ⟨fun hd => by simp [RF, Fence.wide] at hd, calls_in (Calls.mono h hR)⟩
    | row row args => exact ⟨fun hd => by simp [RF, Fence.wide] at hd, rows_in (Rows.mono h fun v w' h => hK _ _ h)⟩
    | round => exact h.elim
    | _ => exact h.elim
  | halt e w' =>
    cases e with
    | panic v => exact hp _ _ _ h
    | _ => exact h.elim

theorem ops_in {r : Option Nat} {n : Nat} {P : Program} {ops : Array Oper} {Q Q' : Exit → Act → World → Prop} {l2 : List Nat} (hd : plainOps ops = true) (hn : ∀ a w, Q .normal a w → wpOpsIn (RF r) n P ops Q' l2 a w)
    (hp : ∀ c a w, Q (.panic c) a w → Q' (.panic c) a w) (ho : ∀ a w, ¬ Q .outgrown a w) : ∀ (l : List Nat) (a : Act) (w : World), wpOps P ops Q l a w → wpOpsIn (RF r) n P ops Q' (l ++ l2) a w
  | [], a, w, h => hn a w h
  | i :: l, a, w, h => by
    simp only [List.cons_append, wpOpsIn]
    simp only [wpOps] at h
    cases hi : ops[i]? with
    | none => simp only [hi] at h ⊢; exact ops_in hd hn hp ho l a w h
    | some o =>
      simp only [hi] at h ⊢
      by_cases hw : Region.wanted o (yielded ops a.tmps) = true
      · rw [if_pos hw] at h ⊢
        rcases h with h | ⟨_, a', w', h⟩
        · exact oper_in (plainOps_spec hd hi) (fun a w h => ops_in hd hn hp ho l a w h) hp ho h
        · exact absurd h (ho _ _)
      · rw [if_neg hw] at h ⊢
        exact ⟨fun _ _ => trivial, ops_in hd hn hp ho l _ w h⟩

theorem ops_in0 {r : Option Nat} {n : Nat} {P : Program} {ops : Array Oper} {Q : Exit → Act → World → Prop} (hd : plainOps ops = true) (ho : ∀ a w, ¬ Q .outgrown a w) {l : List Nat} {a : Act} {w : World} (h : wpOps P ops Q l a w) : wpOpsIn (RF r) n P ops Q l a w := by
  have := ops_in (r := r) (n := n) (P := P) (ops := ops) (Q := Q) (Q' := Q) (l2 := []) hd (fun a w h => h) (fun c a w h => h) ho l a w h
  rwa [List.append_nil] at this

def codePlain : Code → Bool
  | .region _ ops _ => plainOps ops
  | .seq a b => codePlain a && codePlain b
  | .cond _ a b => codePlain a && codePlain b
  | .block _ c => codePlain c
  | .loop c => codePlain c
  | .rangeFunc _ _ _ _ => false
  | _ => true

theorem postQ_out {G : Ent} {nt : Nat} {Q : AEx → Env → Heap → Prop} (a : Act) (w : World) : ¬ postQ G nt Q .outgrown a w := by
  rintro ⟨x, E, H, h, _⟩
  cases x <;> cases h

theorem acode_in {C : Ctx} (hC : C.Ok) {G : Ent} {nt : Nat} {r : Option Nat} {k : Nat} : ∀ {c : Code} {E : Env} {H : Heap} {Q : AEx → Env → Heap → Prop}, codeOk C nt c = true → codePlain c = true → acode C G.S.length G.W c E H Q →
    ∀ a w, St G nt (look E) H a w → c.wpIn (RF r) k C.P (postQ G nt Q) a w := by
  intro c
  induction c with
  | skip => intro E H Q _ _ h a w hs; exact wpIn_skip ⟨.normal, E, H, rfl, h, hs⟩
  | region id ops draw =>
    intro E H Q hok hpl h a w hs
    cases draw with
    | false =>
      obtain ⟨E', H', h1, h2⟩ := aops_tr hC (show aops C G.S.length G.W ops.toList ops.toList E H (Q .normal) from h)
      have := tr_wp (G := G) (nt := nt) (Q := postQ G nt Q) (by simpa [codeOk] using hok) (l := ops.toList) (k := 0) (by simp) h1 (fun a w hs => ⟨.normal, E', H', rfl, h2, hs⟩) a w hs
      rw [Array.length_toList, ← List.range_eq_range'] at this
      exact wpIn_region (ops_in0 hpl postQ_out this)
    | true =>
      refine wpIn_region_draw fun t' => ?_
      simp only [Region.schedule, hC.mixed, Bool.true_or, if_true]
      refine ops_in0 hpl postQ_out ?_
      refine region_alt hC (R := Q .normal) (fun E' H' hq a w hs => ⟨.normal, E', H', rfl, hq, hs⟩) (C.alt id (headD ops.toList) ops.size) ops (.refl _) (by simpa [codeOk] using hok) ?_ _ (lin_ext _ _ _ (by simp) (by simp)) a w hs
      simpa [acode] using h
  | seq x y ihx ihy =>
    intro E H Q hok hpl h a w hs
    simp only [codeOk, codePlain, Bool.and_eq_true] at hok hpl
    refine wpIn_seq (wpIn_mono (ihx hok.1 hpl.1 h a w hs) ?_)
    rintro e a w ⟨x, E, H, rfl, hq, hs⟩
    cases x with
    | normal => exact ihy hok.2 hpl.2 hq a w hs
    | ret => exact ⟨.ret, E, H, rfl, hq, hs⟩
    | exit m => exact ⟨.exit m, E, H, rfl, hq, hs⟩
  | cond c x y ihx ihy =>
    intro E H Q hok hpl h a w hs
    simp only [codeOk, codePlain, Bool.and_eq_true] at hok hpl
    obtain ⟨b, hb, h1, h2⟩ := onB_spec (show onB _ _ from h)
    have hv : a.eval c = .bool b := by
      obtain ⟨_, _, ρ, _, he⟩ := hs
      have : Rv ρ (shs H) w (ev (look E) c) (a.eval c) := by
        cases c with
        | tmp t => exact he t
        | const v =>
          have : EnvOn ρ (shs H) w (.move (.const v)) (look E) a := fun t ht => by simp [opTmps, Op.operands] at ht
          exact this.ev (by simp [Op.operands])
        | global g => trivial
        | func f => exact ⟨[], [], rfl, trivial, trivial⟩
      rw [hb] at this
      exact this
    refine wpIn_cond hv ?_
    cases b
    · exact ihy hok.2 hpl.2 (by have := h2 rfl; exact this) a w hs
    · exact ihx hok.1 hpl.1 (by have := h1 rfl; exact this) a w hs
  | block id c ih =>
    intro E H Q hok hpl h a w hs
    refine wpIn_block (wpIn_mono (ih hok hpl h a w hs) ?_)
    rintro e a w ⟨x, E, H, rfl, hq, hs⟩
    cases x with
    | normal => exact ⟨.normal, E, H, rfl, hq, hs⟩
    | ret => exact ⟨.ret, E, H, rfl, hq, hs⟩
    | exit m =>
      simp only [blockQ] at hq
      simp only [AEx.toExit, Exit.inBlock]
      by_cases hm : m = id
      · rw [if_pos hm] at hq ⊢; exact ⟨.normal, E, H, rfl, hq, hs⟩
      · rw [if_neg hm] at hq ⊢; exact ⟨.exit m, E, H, rfl, hq, hs⟩
  | loop c ih =>
    intro E H Q hok hpl h a w hs
    obtain ⟨ι, p, μ, EE, HH, ⟨i0, hp0, hw0⟩, hround⟩ := h
    let I : Nat → Act → World → Prop := fun k a w => ∃ i, μ i = k ∧ p i ∧ St G nt (look (EE i)) (HH i) a w
    have hleast : ∀ a w, (∃ k, I k a w) → ∃ k, I k a w ∧ ∀ m, I m a w → k ≤ m := fun a w ⟨k, hk⟩ => exists_least (fun k => I k a w) k hk
    let ν : Act → World → Nat := fun a w => by classical exact if h : ∃ k, I k a w then Classical.choose (hleast a w h) else 0
    have hν : ∀ a w (h : ∃ k, I k a w), I (ν a w) a w ∧ ∀ m, I m a w → ν a w ≤ m := by
      intro a w h
      have : ν a w = Classical.choose (hleast a w h) := by simp only [ν]; rw [dif_pos h]
      rw [this]
      exact Classical.choose_spec (hleast a w h)
    refine wpIn_loop (fun a w => ∃ k, I k a w) ν ⟨μ i0, i0, rfl, hp0, hw0.sound rfl hs⟩ ?_
    intro a w hI
    obtain ⟨⟨i, hi1, hi2, hi3⟩, _⟩ := hν a w hI
    refine wpIn_mono (ih hok hpl (hround i hi2) a w hi3) ?_
    rintro e a' w' ⟨x, E, H, rfl, hq, hs⟩
    cases x with
    | normal =>
      obtain ⟨j, hj1, hj2, hj3⟩ := hq
      have hI' : I (μ j) a' w' := ⟨j, rfl, hj1, hj3.sound rfl hs⟩
      refine ⟨⟨μ j, hI'⟩, ?_⟩
      have := (hν a' w' ⟨μ j, hI'⟩).2 (μ j) hI'
      omega
    | ret => exact ⟨.ret, E, H, rfl, hq, hs⟩
    | exit m => exact ⟨.exit m, E, H, rfl, hq, hs⟩
  | exit m => intro E H Q _ _ h a w hs; exact wpIn_exit ⟨.exit m, E, H, rfl, h, hs⟩
  | ret => intro E H Q _ _ h a w hs; exact wpIn_ret ⟨.ret, E, H, rfl, h, hs⟩
  | _ => intro E H Q _ _ h; exact h.elim
end Ink
/- A range over a function, walked by the evaluator: what a round may do and what it keeps. No conditions. -/
namespace Ink
open Go Go.RowKit

def Blk.isC : Blk → Bool
  | .dead _ => false
  | .obj _ => false
  | _ => true
theorem RB.cells {ρ S w B o} (h : RB ρ S w B o) (hc : B.isC = true) : ∃ c T fz, o = some (.cells c T fz) := by
  cases B with
  | data σ v => obtain ⟨_, T, h⟩ := h; exact ⟨_, _, _, h⟩
  | seq wr e l => obtain ⟨_, c, T, fz, h, _⟩ := h; exact ⟨_, _, _, h⟩
  | win o e l => obtain ⟨_, c, T, fz, h, _⟩ := h; exact ⟨_, _, _, h⟩
  | ref x => obtain ⟨v, T, h, _⟩ := h; exact ⟨_, _, _, h⟩
  | obj o => cases hc
  | dead s => cases hc
theorem shs_take {H : Heap} {m : Nat} (hm : m ≤ H.length) : (shs (H.take m)).length = m := by simp [shs_length]; omega

def apartK (ρ : Nat → Nat) (H : Heap) (m : Nat) : Nat → Prop := fun b => ∀ i, m ≤ i → i < H.length → ρ i ≠ b

theorem Inv.start {G : Ent} {ρ H w} (h : Inv G ρ H w) {m : Nat} (hm : m ≤ H.length) (W : List Nat) (ds : List Deferred) : Inv ⟨ρ, w, shs (H.take m), W, apartK ρ H m, ds⟩ ρ H w := by
  refine ⟨h.rel, rfl, rfl, rfl, Nat.le_refl _, fun _ _ _ _ => rfl, fun _ => Nat.le_refl _, fun _ _ => rfl, fun i h1 h2 hk => absurd rfl (hk i (by have := shs_take hm; simp only at h1; omega) h2), ?_⟩
  have : shs H = shs (H.take m) ++ shs (H.drop m) := by rw [← shs_append, List.take_append_drop]
  rw [this]
  exact List.prefix_append _ _

theorem Inv.sub {G : Ent} {ρ H w m W' ds ρ' H' w'} (h : Inv G ρ H w) (hn : G.S.length ≤ m) (hm : m ≤ H.length) (hW : ∀ i ∈ W', i < m → may G.S.length G.W i)
    (k : Inv ⟨ρ, w, shs (H.take m), W', apartK ρ H m, ds⟩ ρ' H' w') : Inv G ρ' H' w' := by
  have hS := shs_take hm
  have hl := h.len
  have hpre : ∀ i, i < m → ρ' i = ρ i := fun i hi => k.pre i (by simp only; omega)
  have hK : ∀ b, G.K b → b < G.w.heap.size → apartK ρ H m b := fun b hb hlt i h1 h2 he => by
    have := h.new i (by omega) h2 (he ▸ hb); omega
  have hm' : m ≤ H'.length := by have := k.len; simp only at this; omega
  refine ⟨k.rel, k.os.trans h.os, k.tape.trans h.tape, k.out.trans h.out, Nat.le_trans h.size k.size, fun b hKb hb hn' => ?_, fun b => Nat.le_trans (h.sz b) (k.sz b), fun i hi => ?_, fun i h1 h2 hKi => ?_, ?_⟩
  · have : w'.heap[b]? = w.heap[b]? := k.old b (hK b hKb hb) (Nat.lt_of_lt_of_le hb h.size) fun i hi hil heq => by
      simp only at heq hil
      rw [hS] at hil
      rcases hW i hi hil with hm | hm
      · have := h.new i hm (by omega) (heq ▸ hKb); omega
      · by_cases hi2 : i < G.S.length
        · exact hn' i hm hi2 (by rw [← h.pre i hi2]; exact heq)
        · have := h.new i (by omega) (by omega) (heq ▸ hKb); omega
    rw [this]
    exact h.old b hKb hb hn'
  · rw [hpre i (by omega)]; exact h.pre i hi
  · by_cases hi : i < m
    · rw [hpre i hi] at hKi ⊢; exact h.new i h1 (by omega) hKi
    · refine Nat.le_of_not_lt fun hlt => ?_
      have := k.new i (by simp only; omega) h2 (hK _ hKi hlt)
      have := h.size
      simp only at *
      omega
  · have h3 : shs H = shs (H.take m) ++ shs (H.drop m) := by rw [← shs_append, List.take_append_drop]
    have h4 : G.S <+: shs (H.take m) := List.prefix_of_prefix_length_le h.sh (by rw [h3]; exact List.prefix_append _ _) (by omega)
    exact h4.trans k.sh

theorem Inv.keeps {ρ H w m W' ds ρ' H' w'} (hr : Rel ρ H w) (hc : ∀ B ∈ H, B.isC = true) (hm : m ≤ H.length) (k : Inv ⟨ρ, w, shs (H.take m), W', apartK ρ H m, ds⟩ ρ' H' w') {b : Nat} {o : Obj} (hb : w.heap[b]? = some o) (ho : o.isCells = false) : w'.heap[b]? = some o := by
  have hne : ∀ i, i < H.length → ρ i ≠ b := fun i hi e => by
    have hB : H[i]? = some H[i] := by simp
    obtain ⟨c, T, fz, h⟩ := (hr.blk i _ hB).cells (hc _ (List.mem_of_getElem? hB))
    rw [e, hb] at h
    cases h
    cases ho
  have := k.old b (fun i _ hi => hne i hi) (Array.getElem?_eq_some_iff.1 hb).1 fun i _ hi e => hne i (by have := shs_take hm; simp only at hi; omega) e
  rw [this]; exact hb

theorem bsz_turn {W W' : World} {row : Option Nat} (hg : W.grownBy W' row) (hr : ∀ r, row = some r → ∃ o : Obj, W.heap[r]? = some o ∧ o.isCells = false) (b : Nat) : bsz W b ≤ bsz W' b := by
  rcases Nat.lt_or_ge b W.heap.size with h | h
  · by_cases hb : some b = row
    · obtain ⟨o, ho, hc⟩ := hr b hb.symm
      have : bsz W b = 0 := by unfold bsz; rw [ho]; cases o <;> first | rfl | cases hc
      omega
    · have := hg.block b h hb
      unfold bsz; rw [this]; exact Nat.le_refl _
  · have : bsz W b = 0 := by unfold bsz; rw [Array.getElem?_eq_none h]
    omega

theorem Inv.turn {G : Ent} {ρ H W W' row} (h : Inv G ρ H W) (hc : ∀ B ∈ H, B.isC = true) (hg : W.grownBy W' row) (hr : ∀ r, row = some r → G.w.heap.size ≤ r ∧ ∃ o : Obj, W.heap[r]? = some o ∧ o.isCells = false) : Inv G ρ H W' := by
  have hsz := bsz_turn hg fun r e => (hr r e).2
  have hE : Ext ρ (shs H) W ρ (shs H) W' := ⟨fun _ _ => rfl, List.prefix_refl _, hsz⟩
  refine ⟨⟨fun i B hi => ?_, h.rel.sep⟩, hg.os.trans h.os, hg.tape.trans h.tape, hg.output.trans h.out, Nat.le_trans h.size hg.size, fun b hK hb hn => ?_, fun b => Nat.le_trans (h.sz b) (hsz b), h.pre, h.new, h.sh⟩
  · have hrb := h.rel.blk i B hi
    obtain ⟨c, T, fz, hcl⟩ := hrb.cells (hc _ (List.mem_of_getElem? hi))
    have : W'.heap[ρ i]? = W.heap[ρ i]? := hg.block _ (Array.getElem?_eq_some_iff.1 hcl).1 fun e => by
      obtain ⟨_, o, ho, hco⟩ := hr _ e.symm
      rw [hcl] at ho; cases ho; cases hco
    rw [this]
    exact hrb.mono hE
  · have : W'.heap[b]? = W.heap[b]? := hg.block b (Nat.lt_of_lt_of_le hb h.size) fun e => by have := (hr b e.symm).1; omega
    rw [this]; exact h.old b hK hb hn

variable {P : Program}
def SeqGoes {α : Type} (n : Nat) (P : Program) (g : Nat) (lb : Array Value) (encs : α → Array Value) (Kp : World → World → Prop) (S : List α → Prop) (N : Nat) (w : World) : Prop :=
  ∀ (l : Nat) (J : List α → World → Prop) (W : World), Below w.heap.size w W → AbidesFrom W.heap.size J →
    (∀ pre x W1, J pre W1 → pre.length < N → YieldAt (RF none) (n - 1) P l (encs x) W1 fun e W' => e = .returned (.bool true) ∧ J (pre ++ [x]) W' ∧ Kp W1 W') →
    J [] W → CallsIn (RF none) n P g (#[.func (.yield l) #[] #[]] ++ lb) W fun e W' => (∃ v, e = .returned v) ∧ ∃ xs, S xs ∧ J xs W'

theorem wpIn_range {α : Type} {n : Nat} {g : Operand} {ps : Array Tmp} {assign body : Code} {Q : Exit → Act → World → Prop} {a : Act} {w : World}
    {gf : Nat} {lb : Array Value} (hg : a.eval g = .func (.func gf) #[] lb) (eg : ∀ args w, (callFunc gf args).run P w = .ok (.enter gf args) w)
    {encs : α → Array Value} {Kp : World → World → Prop} {S : List α → Prop} {N : Nat} (hseq : SeqGoes (n - 1) P gf lb encs Kp S N w)
    (hKt : ∀ {A B C : World}, Kp A B → Kp B C → Kp A C) (hKb : ∀ (W : World) (l : Nat) (o o' : Obj), w.heap.size ≤ l → W.heap[l]? = some o → o.isCells = false → o'.isCells = false → Kp W (W.putObj l o')) (hps : ∀ x, (encs x).size = ps.size)
    (I : List α → World → Prop) (hI : OwnFrom w.heap.size I) (h0 : I [] w)
    (hround : ∀ (l : Nat) (pre : List α) (x : α) (W : World), w.heap.size ≤ l → I pre W → pre.length < N →
      assign.wpIn (RF (some l)) (n - 1 - 1) P (Exit.then (fun a' W1 => KeepsFrom w.heap.size W W1 ∧ Kp W W1 ∧ ∀ o o' : Obj, W1.heap[l]? = some o → o.isCells = false → o'.isCells = false →
        body.wpIn (RF (some l)) (n - 1 - 1) P (fun e _ W3 => e = .normal ∧ KeepsFrom w.heap.size (W1.putObj l o') W3 ∧ Kp (W1.putObj l o') W3 ∧ I (pre ++ [x]) W3) a' (W1.putObj l o')) (fun _ _ _ => False))
        { tmps := (ps.zip (encs x)).foldl (fun t (p, v) => t.setIfInBounds p v) a.tmps, defers := [] } W)
    (hdone : ∀ (D : Nat) (xs : List α) (W : World), w.heap.size ≤ D → S xs → I xs W → W.heap[D]? = some (.deferred (some [])) → Q .normal { a with defers := { target := .collected D, args := #[] } :: a.defers } W) :
    (Code.rangeFunc g ps assign body).wpIn (RF none) n P Q a w := by
  refine wpIn_rangeFunc ?_
  intro fn hfn
  obtain ⟨rec, hrec⟩ : ∃ rec : LoopState → Option Code → Loop, rec = fun st pe => { state := st, pending := pe, fn, tmps := a.tmps, params := ps, assign, body, defers := w.heap.size } := ⟨_, rfl⟩
  obtain ⟨W1, hW1⟩ : ∃ W1, (w.alloc (.deferred (some []))).alloc (.loop (rec .ready none)) = W1 := ⟨_, rfl⟩
  have hL1 : W1.heap[w.heap.size + 1]? = some (.loop (rec .ready none)) := by
    rw [← hW1]; have := World.alloc_heap_new (w.alloc (.deferred (some []))) (.loop (rec .ready none)); rwa [World.size_alloc] at this
  have hK1 : W1.heap[w.heap.size]? = some (.deferred (some [])) := by
    rw [← hW1]; exact (Below.heap_alloc _ _ _ (by simp)).trans (World.alloc_heap_new w _)
  have hI1 : I [] W1 := by rw [← hW1]; exact hI.alloc _ (hI.alloc _ h0)
  have hb1 : Below w.heap.size w W1 := by
    rw [← hW1]; exact ((Below.refl _ w).alloc (Nat.le_refl _) _).alloc (by simp) _
  refine ⟨w.heap.size + 1, [{ target := .collected w.heap.size, args := #[] }], W1, { target := .fn (.func gf) lb, args := #[.func (.yield (w.heap.size + 1)) #[] #[]] }, W1, gf,
    #[.func (.yield (w.heap.size + 1)) #[] #[]] ++ lb, W1, ?_, ?_, ?_, ?_, fun h => by simp [RF, Fence.wide] at h, ?_⟩
  · rw [← hW1, hrec]; exact run_enterLoop_outer _ _ _ _ _
  · simp only [resolve, hg]
    simp [go_sem]
  · intro f' hf'; trivial
  · simp [invoke, go_sem, eg]
  · have hnw : ∀ {A B : World} {row : Option Nat}, (∀ r, row = some r → W1.heap.size ≤ r ∧ ∃ o : Obj, A.heap[r]? = some o ∧ o.isWalk = true) → (∀ r, row = some r → w.heap.size ≤ r ∧ ∃ o : Obj, A.heap[r]? = some o ∧ o.isCells = false) :=
      fun hr r e => by obtain ⟨hB, o, ho, hw⟩ := hr r e; exact ⟨by rw [← hW1] at hB; simp at hB; omega, o, ho, Obj.not_cells_of_walk hw⟩
    refine (hseq (w.heap.size + 1)
      (fun pre W => I pre W ∧ W.heap[w.heap.size + 1]? = some (.loop (rec .ready none)) ∧ W.heap[w.heap.size]? = some (.deferred (some [])))
      W1 hb1
      (fun s A B row hs hg' hr => ⟨hI s A B row hs.1 hg' (hnw (B := B) hr), (grownBy_keeps hg' (fun r e => (hr r e).2) hs.2.1 rfl).trans hs.2.1, (grownBy_keeps hg' (fun r e => (hr r e).2) hs.2.2 rfl).trans hs.2.2⟩)
      ?_ ⟨hI1, hL1, hK1⟩).mono ?_
    · rintro pre x W ⟨hi, hl, hk⟩ hlen
      have hy := run_yield (P := P) (args := encs x) hl (by rw [hrec]; exact hps x)
      rw [hrec] at hy
      refine ⟨fn, _, assign, body, hy, roundIn_of_wpIn hfn (wpIn_mono (hround _ pre x W (by omega) hi hlen) ?_)⟩
      intro e a1 V hV
      cases e with
      | normal =>
        obtain ⟨hkf, hkp, hbody⟩ := hV
        have hlV : V.heap[w.heap.size + 1]? = some (.loop (rec .ready none)) := hkf.same _ _ (by omega) hl rfl
        have hkV : V.heap[w.heap.size]? = some (.deferred (some [])) := hkf.same _ _ (Nat.le_refl _) hk rfl
        have hlt : w.heap.size + 1 < V.heap.size := (Array.getElem?_eq_some_iff.1 hlV).1
        refine ⟨_, run_beginRound hlV (by rw [hrec]), ?_⟩
        have hl2 : (V.putObj (w.heap.size + 1) (.loop { rec .ready none with state := .busy })).heap[w.heap.size + 1]? = some (.loop { rec .ready none with state := .busy }) := World.putObj_heap_same hlt
        have hk2 : (V.putObj (w.heap.size + 1) (.loop { rec .ready none with state := .busy })).heap[w.heap.size]? = some (.deferred (some [])) := (World.putObj_heap_other (by omega)).trans hkV
        have hw2 : Kp V (V.putObj (w.heap.size + 1) (.loop { rec .ready none with state := .busy })) := hKb _ _ _ _ (by omega) hlV rfl rfl
        refine wpIn_mono (hbody _ (.loop { rec .ready none with state := .busy }) hlV rfl rfl) ?_
        rintro e a3 W3 ⟨rfl, hk3, hkp3, hi3⟩
        have hl3 := hk3.same _ _ (by omega) hl2 rfl
        have hend := run_endRound (P := P) none hl3
        rw [hrec] at hend
        rw [hrec] at hl3
        refine ⟨_, _, hend, ⟨rfl, ⟨hI.putObj _ hi3 (by omega) hl3 rfl, ?_, (World.putObj_heap_other (by omega)).trans (hk3.same _ _ (Nat.le_refl _) hk2 rfl)⟩, hKt hkp (hKt (hKt hw2 hkp3) (hKb _ _ _ _ (by omega) hl3 rfl rfl))⟩⟩
        rw [World.putObj_heap_same (Array.getElem?_eq_some_iff.1 hl3).1, hrec]
        rfl
      | ret => exact hV.elim
      | exit id => exact hV.elim
      | goto t => exact hV.elim
      | panic ch => exact hV.elim
      | outgrown => exact hV.elim
    · rintro e W2 ⟨⟨v, rfl⟩, xs, hS, hi, hl, hk⟩
      exact ⟨none, _, by have := run_endLoop (P := P) hl (by rw [hrec]; simp); rw [hrec] at this; exact this, hdone _ xs _ (Nat.le_refl _) hS (hI.putObj _ hi (by omega) hl rfl) ((World.putObj_heap_other (by omega)).trans hk)⟩
end Ink
/- A range over a function at abstract heaps. No conditions. -/
namespace Ink
open Go Go.RowKit

theorem ren_id {m : Nat} {v : AV} (h : inScope m v) : ren id v = v := ren_in (fun _ _ => rfl) h

theorem Rv_at {ρ0 ρ : Nat → Nat} {H0 H1 : Heap} {m : Nat} {w W : World} {v : AV} {x : Value} (hv : inScope m v) (hr : Rv ρ0 (shs H0) w v x) (h1 : m ≤ H1.length) (hs : shs (H0.take m) = shs (H1.take m))
    (hρ : ∀ i, i < m → ρ i = ρ0 i) (hb : ∀ b, bsz w b ≤ bsz W b) : Rv ρ (shs H1) W v x := by
  have hpre : ∀ H : Heap, shs (H.take m) <+: shs H := fun H => by
    have : shs H = shs (H.take m) ++ shs (H.drop m) := by rw [← shs_append, List.take_append_drop]
    rw [this]; exact List.prefix_append _ _
  have hget : ∀ (H : Heap) (b : Nat), b < m → (shs H)[b]? = (shs (H.take m))[b]? := fun H b hb => by simp [shs, hb]
  have e1 : Rv ρ0 (shs (H1.take m)) w v x := by
    have := Rv_unren (ρ := ρ0) (κ := id) (m := m) (S := shs H0) (S' := shs (H1.take m)) (w := w) (fun b hb => by rw [id, hget H0 b hb, hs]) hv (by rw [ren_id hv]; exact hr)
    exact this
  exact Rv.mono ⟨fun i hi => hρ i (by rw [shs_take h1] at hi; exact hi), hpre H1, hb⟩ e1

theorem tset_get {l : Array Value} {p t : Nat} {v : Value} (hp : p < l.size) : (l.setIfInBounds p v).getD t undef = if t = p then v else l.getD t undef := by
  by_cases h : t = p
  · subst h; simp [hp]
  · rw [if_neg h]
    have : ¬ p = t := fun e => h e.symm
    simp only [Array.getD_eq_getD_getElem?, Array.getElem?_setIfInBounds_ne this]

theorem look_scope {m : Nat} {E : Env} (hE : ∀ x ∈ E, inScope m x.2) (t : Nat) : inScope m (look E t) := by
  induction E with
  | nil => exact trivial
  | cons x E ih =>
    obtain ⟨s, v⟩ := x
    simp only [look]
    by_cases h : s = t
    · rw [if_pos h]; exact hE (s, v) (by simp)
    · rw [if_neg h]; exact ih fun x hx => hE x (by simp [hx])

structure HeapP (m : Nat) (H H' : Heap) (τ : List Nat) : Prop where
  nd : τ.Nodup
  fix : ∀ i, i < m → τ.getD i 0 = i
  len : m ≤ H'.length
  tl : tailW (sg 0 τ) H'.length H τ H'

theorem HeapP.sound {m : Nat} {H H' : Heap} {τ : List Nat} {G : Ent} {ρ : Nat → Nat} {w : World} (hn : G.S.length = m) (h : HeapP m H H' τ) (hi : Inv G ρ H w) : Inv G (fun i => ρ (sg 0 τ i)) H' w := by
  have hs : ∀ i, sg 0 τ i = τ.getD i 0 := fun i => by simp [sg]
  have h0 : HeapW 0 H H' (sg 0 τ) := ⟨[], H, H', τ, rfl, rfl, rfl, h.nd, fun i x hx => by simp at hx, rfl, h.tl⟩
  have hi0 : Inv ⟨ρ, w, [], [], fun _ => False, []⟩ ρ H w := ⟨hi.rel, rfl, rfl, rfl, Nat.le_refl _, fun _ h => h.elim, fun _ => Nat.le_refl _, fun _ _ => rfl, fun _ _ _ h => h.elim, List.nil_prefix⟩
  have hr := (HeapW.sound (n := 0) (G := ⟨ρ, w, [], [], fun _ => False, []⟩) rfl h0 hi0).1.rel
  obtain ⟨hlen, hget⟩ := tailW_get h.tl
  have hblk : ∀ i B, H'[i]? = some B → ∃ B0, H[sg 0 τ i]? = some B0 ∧ BlkW (sg 0 τ) H'.length B B0 := fun i B hB => by
    rw [hs]; exact hget i B hB
  refine ⟨hr, hi.os, hi.tape, hi.out, hi.size, hi.old, hi.sz, fun i hlt => ?_, fun i h1 h2 hK => ?_, ?_⟩
  · show ρ (sg 0 τ i) = G.ρ i
    rw [hs, h.fix i (by omega)]; exact hi.pre i hlt
  · have hB : H'[i]? = some H'[i] := by simp
    obtain ⟨B0, h3, _⟩ := hblk i _ hB
    refine hi.new (sg 0 τ i) ?_ (get_lt h3) hK
    refine Nat.le_of_not_lt fun hlt => ?_
    have h4 := h.fix (sg 0 τ i) (by omega)
    rw [hs] at h4 hlt
    have hil : i < τ.length := by omega
    have hjl : τ.getD i 0 < τ.length := by have := h.len; omega
    have h5 : τ[τ.getD i 0] = τ[i] := by
      have e1 : τ.getD (τ.getD i 0) 0 = τ[τ.getD i 0] := by rw [List.getD_eq_getElem?_getD (i := τ.getD i 0), List.getElem?_eq_getElem hjl]; rfl
      have e2 : τ.getD i 0 = τ[i] := by rw [List.getD_eq_getElem?_getD, List.getElem?_eq_getElem hil]; rfl
      rw [← e1, h4, e2]
    have hpw := List.pairwise_iff_getElem.1 h.nd
    rcases Nat.lt_trichotomy (τ.getD i 0) i with hlt2 | heq | hlt2
    · exact hpw _ _ hjl hil hlt2 h5
    · omega
    · exact hpw _ _ hil hjl hlt2 h5.symm
  · have hm := h.len
    have hx : G.S = (shs H').take m := by
      refine List.ext_getElem? fun i => ?_
      rcases Nat.lt_or_ge i m with hlt | hge
      · have hB : H'[i]? = some (H'[i]'(by omega)) := by simp
        obtain ⟨B0, h3, h4⟩ := hblk i _ hB
        rw [hs, h.fix i hlt] at h3
        rw [List.getElem?_take, if_pos hlt, shs_get hB, BlkW_sh h4, ← shs_get h3]
        have hp := hi.sh
        have hgs : G.S[i]? = some (G.S[i]'(by omega)) := by simp
        rw [hgs]
        exact (prefix_get hp hgs).symm
      · rw [List.getElem?_take, if_neg (by omega), List.getElem?_eq_none (by omega)]
    rw [hx]
    exact List.take_prefix _ _

theorem range_rule {α : Type} {C : Ctx} (hC : C.Ok) {G : Ent} {nt m n : Nat} {E : Env} {HH : List α → Heap} {GdH : Heap → Prop} {Gd : World → Prop} {t p q : Nat} {assign body : Code} {gf : FuncId} {lbA : List AV} {Wr : List Nat} {a1 a2 : α → AV} {encs : α → Array Value}
    {S : List α → Prop} {N : Nat} {Q : Exit → Act → World → Prop} {a : Act} {w : World} {ρ0 : Nat → Nat}
    (hinv : Inv G ρ0 (HH []) w) (htm : ∀ t, Rv ρ0 (shs (HH [])) w (look E t) (a.tmps.getD t undef)) (hnt : a.tmps.size = nt)
    (hgS : G.S.length ≤ m) (hHl : ∀ pre, m ≤ (HH pre).length) (hHc : ∀ pre, ∀ B ∈ HH pre, B.isC = true) (hHs : ∀ pre, shs ((HH pre).take m) = shs ((HH []).take m)) (hHG : ∀ pre, GdH (HH pre))
    (hWr : ∀ i ∈ Wr, i < m → may G.S.length G.W i) (hE : ∀ x ∈ E, inScope m x.2) (hg : look E t = .fn gf [] lbA) (he : Enters C.P gf)
    (henc : ∀ x, ∃ v1 v2, encs x = #[v1, v2] ∧ ∀ ρ S w, Rv ρ S w (a1 x) v1 ∧ Rv ρ S w (a2 x) v2) (hp : p < nt) (hq : q < nt) (hpq : p ≠ q)
    (hGd : ∀ H ρ W, Rel ρ H W → GdH H → (∀ i, i < m → ρ i = ρ0 i) → Gd W) (hGb : ∀ (W : World) (l : Nat) (o o' : Obj), W.heap[l]? = some o → o.isCells = false → o'.isCells = false → Gd W → Gd (W.putObj l o'))
    (hit : ∀ ws, Rvs ρ0 (shs (HH [])) w lbA ws → SeqGoes (n - 1) C.P gf ws.toArray encs (fun W W' => Gd W → Gd W') S N w)
    (ho1 : codeOk C nt assign = true) (ho2 : codePlain assign = true) (ho3 : codeOk C nt body = true) (ho4 : codePlain body = true)
    (hround : ∀ pre x, pre.length < N → acode C m Wr assign ((p, a1 x) :: (q, a2 x) :: E) (HH pre) fun ex E1 H1 => ex = .normal ∧ ((∀ B ∈ H1, B.isC = true) ∧ GdH H1) ∧ acode C m Wr body E1 H1 fun ex H2 H3 => ex = .normal ∧ ∃ τ, HeapP m H3 (HH (pre ++ [x])) τ)
    (hdone : ∀ D W xs ρ, w.heap.size ≤ D → S xs → Inv G ρ (HH xs) W → (∀ t, Rv ρ (shs (HH xs)) W (look E t) (a.tmps.getD t undef)) → W.heap[D]? = some (.deferred (some [])) → Q .normal { a with defers := { target := .collected D, args := #[] } :: a.defers } W) :
    (Code.rangeFunc (.tmp t) #[p, q] assign body).wpIn (RF none) n C.P Q a w := by
  have hgv := htm t
  rw [hg] at hgv
  obtain ⟨vs, ws, hgv, hvs, hws⟩ := hgv
  have hvs0 : vs = [] := by cases vs <;> first | rfl | exact hvs.elim
  subst hvs0
  have hsz0 := hinv.size
  have hRv : ∀ {H : Heap} {ρ : Nat → Nat} {W : World}, m ≤ H.length → shs (H.take m) = shs ((HH []).take m) → (∀ i, i < m → ρ i = ρ0 i) → (∀ b, bsz w b ≤ bsz W b) → ∀ t, Rv ρ (shs H) W (look E t) (a.tmps.getD t undef) := by
    intro H ρ W h1 h2 h3 h4 t
    exact Rv_at (H0 := HH []) (m := m) (w := w) (look_scope hE t) (htm t) h1 h2.symm h3 h4
  refine wpIn_range (α := α) (gf := gf) (lb := ws.toArray) (encs := encs) (Kp := fun W W' => Gd W → Gd W') (S := S) (N := N) hgv (callFunc_run he) (hit ws hws) (fun h k g => k (h g))
    (fun W l o o' _ h1 h2 h3 g => hGb W l o o' h1 h2 h3 g) (fun x => by obtain ⟨v1, v2, h, _⟩ := henc x; rw [h]; rfl)
    (fun pre W => ∃ ρ, Inv G ρ (HH pre) W ∧ (∀ i, i < m → ρ i = ρ0 i) ∧ ∀ b, bsz w b ≤ bsz W b) ?_ ⟨ρ0, hinv, fun _ _ => rfl, fun _ => Nat.le_refl _⟩ ?_ ?_
  · rintro pre W W' row ⟨ρ, h1, h2, h3⟩ hgr hr
    exact ⟨ρ, h1.turn (hHc pre) hgr fun r e => ⟨Nat.le_trans hsz0 (hr r e).1, (hr r e).2⟩, h2, fun b => Nat.le_trans (h3 b) (bsz_turn hgr (fun r e => (hr r e).2) b)⟩
  · rintro l pre x W hl ⟨ρ, h1, h2, h3⟩ hpN
    obtain ⟨v1, v2, hv, hvv⟩ := henc x
    have hS := shs_take (hHl pre)
    have hst := h1.start (hHl pre) Wr []
    have hs : St ⟨ρ, W, shs ((HH pre).take m), Wr, apartK ρ (HH pre) m, []⟩ nt (look ((p, a1 x) :: (q, a2 x) :: E)) (HH pre) { tmps := (#[p, q].zip (encs x)).foldl (fun t (p, v) => t.setIfInBounds p v) a.tmps, defers := [] } W := by
      refine ⟨?_, rfl, ρ, hst, fun t => ?_⟩
      · rw [hv]; simp [hnt]
      · rw [hv]
        rw [show (#[p, q].zip #[v1, v2]).foldl (fun t (p, v) => t.setIfInBounds p v) a.tmps = (a.tmps.setIfInBounds p v1).setIfInBounds q v2 by simp]
        rw [tset_get (by simp [hnt]; exact hq), tset_get (by rw [hnt]; exact hp)]
        simp only [look]
        by_cases e1 : t = q
        · subst e1
          rw [if_pos rfl, if_neg hpq, if_pos rfl]
          exact (hvv _ _ _).2
        · rw [if_neg e1]
          by_cases e2 : t = p
          · subst e2; rw [if_pos rfl, if_pos rfl]; exact (hvv _ _ _).1
          · rw [if_neg e2, if_neg fun h => e2 h.symm, if_neg fun h => e1 h.symm]
            exact hRv (hHl pre) (hHs pre) h2 h3 t
    have hac := hround pre x hpN
    rw [← show (Ent.mk ρ W (shs ((HH pre).take m)) Wr (apartK ρ (HH pre) m) []).S.length = m from hS] at hac
    refine wpIn_mono (acode_in hC ho1 ho2 hac _ _ hs) ?_
    rintro e a' W1 ⟨ex, E1, H1, rfl, ⟨rfl, ⟨hc1, hgd1⟩, hb1⟩, hs1⟩
    obtain ⟨hnt1, hdf1, ρ1, hi1, he1⟩ := hs1
    have hm1 : m ≤ H1.length := by have := hi1.len; simp only [hS] at this; exact this
    have hp1 : ∀ i, i < m → ρ1 i = ρ0 i := fun i hi => (hi1.pre i (by simp only [hS]; exact hi)).trans (h2 i hi)
    have hI1 : Inv G ρ1 H1 W1 := h1.sub hgS (hHl pre) hWr hi1
    have hsh1 : shs (H1.take m) = shs ((HH []).take m) := by
      rw [← hHs pre]
      have h4 : shs ((HH pre).take m) <+: shs H1 := hi1.sh
      have h5 : shs H1 = shs (H1.take m) ++ shs (H1.drop m) := by rw [← shs_append, List.take_append_drop]
      have h6 : shs ((HH pre).take m) <+: shs (H1.take m) := List.prefix_of_prefix_length_le h4 (by rw [h5]; exact List.prefix_append _ _) (by rw [hS, shs_take hm1]; exact Nat.le_refl _)
      exact (h6.eq_of_length (by rw [hS, shs_take hm1])).symm
    refine ⟨⟨hi1.size, fun b o _ hb ho => hi1.keeps hst.rel (hHc pre) (hHl pre) hb ho⟩, fun _ => hGd H1 ρ1 W1 hI1.rel hgd1 hp1, fun o o' ho hno hno' => ?_⟩
    have hgr : W1.grownBy (W1.putObj l o') (some l) := grownBy_putObj' W1 l o'
    have hrow : ∀ r, some l = some r → G.w.heap.size ≤ r ∧ ∃ o : Obj, W1.heap[r]? = some o ∧ o.isCells = false := fun r e => by cases e; exact ⟨Nat.le_trans hsz0 hl, o, ho, hno⟩
    have hI2 : Inv G ρ1 H1 (W1.putObj l o') := hI1.turn hc1 hgr hrow
    have hst2 := hI2.start hm1 Wr []
    have hS1 := shs_take hm1
    have hbz : ∀ b, bsz W1 b ≤ bsz (W1.putObj l o') b := bsz_turn hgr fun r e => (hrow r e).2
    have hs2 : St ⟨ρ1, W1.putObj l o', shs (H1.take m), Wr, apartK ρ1 H1 m, []⟩ nt (look E1) H1 a' (W1.putObj l o') :=
      ⟨hnt1, hdf1, ρ1, hst2, fun t => (he1 t).mono ⟨fun _ _ => rfl, List.prefix_refl _, hbz⟩⟩
    rw [show (Ent.mk ρ W (shs ((HH pre).take m)) Wr (apartK ρ (HH pre) m) []).S.length = (Ent.mk ρ1 (W1.putObj l o') (shs (H1.take m)) Wr (apartK ρ1 H1 m) []).S.length from hS.trans hS1.symm] at hb1
    refine wpIn_mono (acode_in hC ho3 ho4 hb1 _ _ hs2) ?_
    rintro e a2 W3 ⟨ex, E2, H2, rfl, ⟨rfl, τ, hw⟩, hs3⟩
    obtain ⟨_, _, ρ2, hi2, _⟩ := hs3
    rw [show (Ent.mk ρ1 (W1.putObj l o') (shs (H1.take m)) Wr (apartK ρ1 H1 m) []).S.length = m from hS1] at hw
    have hi3 := HeapP.sound (m := m) hS1 hw hi2
    have hp3 : ∀ i, i < m → ρ2 (sg 0 τ i) = ρ0 i := fun i hi => (hi3.pre i (by simp only [hS1]; exact hi)).trans (hp1 i hi)
    have hI3 : Inv G (fun i => ρ2 (sg 0 τ i)) (HH (pre ++ [x])) W3 := hI2.sub hgS hm1 hWr hi3
    refine ⟨rfl, ⟨hi3.size, fun b o _ hb ho => hi3.keeps hst2.rel hc1 hm1 hb ho⟩, fun _ => hGd _ _ W3 hI3.rel (hHG _) hp3, _, hI3, hp3, fun b => ?_⟩
    exact Nat.le_trans (h3 b) (Nat.le_trans (hi1.sz b) (Nat.le_trans (hbz b) (hi3.sz b)))
  · rintro D xs W hD hS ⟨ρ, h1, h2, h3⟩ hW
    exact hdone D W xs ρ hD hS h1 (hRv (hHl xs) (hHs xs) h2 h3) hW
end Ink
/- An iterator over a list, walked by the evaluator. No conditions. -/
namespace Ink
open Go Go.RowKit

theorem Rel_same {ρ ρ' : Nat → Nat} {H : Heap} {w : World} (h : Rel ρ H w) (he : ∀ i, i < H.length → ρ' i = ρ i) : Rel ρ' H w := by
  refine ⟨fun i B hi => ?_, fun i j A B hi hj => ?_⟩
  · rw [he i (get_lt hi)]
    exact (h.blk i B hi).mono ⟨fun i hi => he i (by rw [shs_length] at hi; exact hi), List.prefix_refl _, fun _ => Nat.le_refl _⟩
  · rw [he i (get_lt hi), he j (get_lt hj)]; exact h.sep i j A B hi hj
theorem Rel_kept {ρ : Nat → Nat} {H : Heap} {w W : World} (h : Rel ρ H w) (hc : ∀ B ∈ H, B.isC = true) (hb : ∀ (b : Nat) (c : Array Value) (T : TypeId) (fz : Nat × Nat), w.heap[b]? = some (Obj.cells c T fz) → W.heap[b]? = w.heap[b]?) (hz : ∀ b, bsz w b ≤ bsz W b) : Rel ρ H W := by
  refine ⟨fun i B hi => ?_, h.sep⟩
  have hrb := h.blk i B hi
  obtain ⟨c, T, fz, hcl⟩ := hrb.cells (hc _ (List.mem_of_getElem? hi))
  rw [hb _ _ _ _ hcl]
  exact hrb.mono ⟨fun _ _ => rfl, List.prefix_refl _, hz⟩
theorem Rel_below {ρ : Nat → Nat} {H : Heap} {w W : World} (h : Rel ρ H w) (hc : ∀ B ∈ H, B.isC = true) (hb : Below w.heap.size w W) : Rel ρ H W := by
  refine Rel_kept h hc (fun b c T fz hcl => hb.block b (Array.getElem?_eq_some_iff.1 hcl).1) fun b => ?_
  rcases Nat.lt_or_ge b w.heap.size with hl | hl
  · have := hb.block b hl
    unfold bsz; rw [this]; exact Nat.le_refl _
  · have : bsz w b = 0 := by unfold bsz; rw [Array.getElem?_eq_none hl]
    omega
theorem Rel_turn {ρ : Nat → Nat} {H : Heap} {W : World} (h : Rel ρ H W) (hc : ∀ B ∈ H, B.isC = true) {l : Nat} {o o' : Obj} (ho : W.heap[l]? = some o) (hno : o.isCells = false) : Rel ρ H (W.putObj l o') := by
  refine Rel_kept h hc (fun b c T fz hcl => ?_) (bsz_turn (grownBy_putObj' W l o') fun r e => by cases e; exact ⟨o, ho, hno⟩)
  exact World.putObj_heap_other fun e => by subst e; rw [ho] at hcl; cases hcl; cases hno

theorem bsz_below {w W : World} (hb : Below w.heap.size w W) (b : Nat) : bsz w b ≤ bsz W b := by
  rcases Nat.lt_or_ge b w.heap.size with hl | hl
  · have := hb.block b hl
    unfold bsz; rw [this]; exact Nat.le_refl _
  · have : bsz w b = 0 := by unfold bsz; rw [Array.getElem?_eq_none hl]
    omega

theorem tr_part {C : Ctx} {G : Ent} {nt : Nat} {ops : Array Oper} (hd : dstOk nt ops.toList = true) {Q : Exit → Act → World → Prop} :
    ∀ {l : List Oper} {k : Nat} {E H E' H'}, (∀ j o, l[j]? = some o → ops[k + j]? = some o) → Tr C G.S.length G.W ops l E H E' H' → (∀ a w, St G nt E' H' a w → Q .normal a w) → ∀ a w, St G nt E H a w →
      wpOps C.P ops Q (List.range' k l.length) a w
  | [], k, E, H, E', H', _, ht, hq, a, w, hs => by cases ht; simpa [wpOps] using hq a w hs
  | o :: l, k, E, H, E', H', hl, ht, hq, a, w, hs => by
    have ho : ops[k]? = some o := by simpa using hl 0 o (by simp)
    have hom : o ∈ ops.toList := by
      rw [← Array.getElem?_toList] at ho
      exact List.mem_of_getElem? ho
    cases ht with
    | @cons _ _ _ _ v H1 _ _ h1 h2 =>
    obtain ⟨hts, hdf, ρ, hi, he⟩ := hs
    have hrest := fun a w => tr_part (G := G) (nt := nt) hd (l := l) (k := k + 1) (fun j o' ho' => by have := hl (j + 1) o' (by simpa using ho'); simpa [Nat.add_assoc, Nat.add_comm 1 j] using this) h2 hq a w
    rw [List.length_cons, List.range'_succ]
    simp only [wpOps, ho]
    rcases h1 with ⟨hg, hop⟩ | ⟨hg, rfl, rfl⟩
    · rw [hg.wanted fun t _ => he t]
      simp only [if_true]
      left
      exact hop.1 G o rfl rfl rfl ρ a w _ _ hi (fun t _ => he t) fun x w' ρ' h3 h4 h5 => hrest _ _ (St.put hts hdf he (dstOk_spec hd hom) h3 h4 h5)
    · rw [hg.wanted fun t _ => he t]
      simp only [Bool.false_eq_true, if_false]
      exact hrest _ _ (St.put hts hdf he (dstOk_spec hd hom) hi (Ext.refl _ _ _) ⟨[], rfl, trivial⟩)

abbrev entV (ρ : Nat → Nat) (H : Heap) (V : World) : Ent := ⟨ρ, V, shs H, [], fun _ => True, []⟩
theorem entV_len (ρ : Nat → Nat) (H : Heap) (V : World) : (entV ρ H V).S.length = H.length := shs_length
theorem entV_inv {ρ : Nat → Nat} {H : Heap} {V : World} (h : Rel ρ H V) : Inv (entV ρ H V) ρ H V :=
  ⟨h, rfl, rfl, rfl, Nat.le_refl _, fun _ _ _ _ => rfl, fun _ => Nat.le_refl _, fun _ _ => rfl, fun i h1 h2 _ => by rw [entV_len] at h1; omega, List.prefix_refl _⟩
theorem entV_grown {ρ ρ2 : Nat → Nat} {H H2 : Heap} {V V' : World} (h : Inv (entV ρ H V) ρ2 H2 V') : V.grownBy V' none :=
  ⟨h.os, h.tape, h.out, h.size, fun b hb _ => h.old b trivial hb fun i hi => by simp at hi⟩

structure AtV (ρ : Nat → Nat) (H : Heap) (nt : Nat) (E : Env) (a : Act) (V : World) : Prop where
  rel : Rel ρ H V
  nt : a.tmps.size = nt
  df : a.defers = []
  tm : ∀ t, Rv ρ (shs H) V (look E t) (a.tmps.getD t undef)
theorem AtV.st {ρ H nt E a V} (h : AtV ρ H nt E a V) : St (entV ρ H V) nt (look E) H a V := ⟨h.nt, h.df, ρ, entV_inv h.rel, h.tm⟩
theorem AtV.of {ρ H nt E a V V'} (h : St (entV ρ H V) nt (look E) H a V') : AtV ρ H nt E a V' := by
  obtain ⟨h1, h2, ρ2, h3, h4⟩ := h
  have hp : ∀ i, i < H.length → ρ i = ρ2 i := fun i hi => (h3.pre i (by rw [entV_len]; exact hi)).symm
  exact ⟨Rel_same h3.rel hp, h1, h2, fun t => (h4 t).mono ⟨fun i hi => hp i (by rw [shs_length] at hi; exact hi), List.prefix_refl _, fun _ => Nat.le_refl _⟩⟩

theorem iter_rule {α : Type} {C : Ctx} (hC : C.Ok) {n f nt tc ta tb ty tn tk : Nat} {fn : Func} {c0 c1 c2 : Code} {rid : Nat} {pre : List Oper} {oy on : Oper} {ops : Array Oper} {tnot : TypeId} {H0 : Heap} {ρ : Nat → Nat} {w : World} {xs : List α} {lbA : List AV} {lb : List Value} {EE : Nat → Env} {a1 a2 : α → AV} {encs : α → Array Value} {ats : Array TypeId}
    (hf : C.P.funcs[f]? = some fn) (hb : fn.body = some (.seq c0 (.block 0 (.loop (.seq (.seq c1 (.cond (.tmp tk) .skip (.exit 0))) (.seq (.block 1 (.seq (.region rid ops false) (.cond (.tmp tn) .ret .skip))) c2))))))
    (hops : ops.toList = pre ++ [oy, on]) (hy1 : oy.op = .call ⟨.value (.tmp tc), #[.tmp ta, .tmp tb], ats⟩) (hy2 : oy.guard = none) (hy3 : oy.dst = some ty) (hn1 : on.op = .unOp .not tnot (.tmp ty)) (hn2 : on.guard = none) (hn3 : on.dst = some tn)
    (hnt : fn.ntmps = nt) (hres : fn.results = #[]) (hargs : lbA.length + 1 ≤ nt) (hdst : dstOk nt ops.toList = true) (hpl : plainOps ops = true)
    (hok0 : codeOk C nt c0 = true) (hok1 : codeOk C nt c1 = true) (hok2 : codeOk C nt c2 = true) (hpl0 : codePlain c0 = true) (hpl1 : codePlain c1 = true) (hpl2 : codePlain c2 = true)
    (hrel : Rel ρ H0 w) (hc : ∀ B ∈ H0, B.isC = true) (hlb : Rvs ρ (shs H0) w lbA lb)
    (henc : ∀ x ρ S w v1 v2, Rv ρ S w (a1 x) v1 → Rv ρ S w (a2 x) v2 → encs x = #[v1, v2])
    (hEE : ∀ k, ∀ p ∈ EE k, p.1 ≠ 0 ∧ ∀ ρ S w w' x, Rv ρ S w p.2 x → Rv ρ S w' p.2 x)
    (h0 : ∀ y, acode C H0.length [] c0 (argE (.raw y :: lbA) 0) H0 fun ex E1 H1 => ex = .normal ∧ WeakS H0.length E1 H1 ((0, .raw y) :: EE 0) H0)
    (h1 : ∀ y k, k ≤ xs.length → acode C H0.length [] c1 ((0, .raw y) :: EE k) H0 fun ex E1 H1 => ex = .normal ∧ look E1 tk = .bool (decide (k < xs.length)) ∧ WeakS H0.length E1 H1 ((0, .raw y) :: EE k) H0)
    (h2 : ∀ y k, k < xs.length → acode C H0.length [] c2 ((0, .raw y) :: EE k) H0 fun ex E1 H1 => ex = .normal ∧ WeakS H0.length E1 H1 ((0, .raw y) :: EE (k + 1)) H0)
    (h3 : ∀ y k (hk : k < xs.length), aops C H0.length [] ops.toList pre ((0, .raw y) :: EE k) H0 fun E1 H1 => H1 = H0 ∧ look E1 tc = .raw y ∧ look E1 ta = a1 xs[k] ∧ look E1 tb = a2 xs[k] ∧ ∀ p ∈ ((0, AV.raw y) :: EE k), look E1 p.1 = look ((0, AV.raw y) :: EE k) p.1)
    (hty : ty < nt) (htn : tn < nt) (hfr : ty ≠ 0 ∧ tn ≠ 0 ∧ tn ≠ ty ∧ ∀ k, ∀ p ∈ EE k, p.1 ≠ ty ∧ p.1 ≠ tn) :
    SeqGoes n C.P f lb.toArray encs (fun W W' => Rel ρ H0 W → Rel ρ H0 W') (fun ys => ys = xs) xs.length w := by
  intro l J W hW hJ hY hJ0
  obtain ⟨y, hyv⟩ : ∃ y : Value, y = .func (.yield l) #[] #[] := ⟨_, rfl⟩
  have hrelW : Rel ρ H0 W := Rel_below hrel hc hW
  have hbz : ∀ b, bsz w b ≤ bsz W b := bsz_below hW
  have hlbW : Rvs ρ (shs H0) W (.raw y :: lbA) (y :: lb) := ⟨rfl, hlb.mono ⟨fun _ _ => rfl, List.prefix_refl _, hbz⟩⟩
  have hlen := (Rvs_get 0 hlbW).1
  simp only [List.length_cons] at hlen
  refine callsIn_of_wp hf hb trivial ?_ rfl
  have hA0 : AtV ρ H0 nt (argE (.raw y :: lbA) 0) { tmps := (#[.func (.yield l) #[] #[]] ++ lb.toArray) ++ Array.replicate (fn.ntmps - (#[Value.func (.yield l) #[] #[]] ++ lb.toArray).size) undef, defers := [] } W := by
    rw [← hyv, show #[y] ++ lb.toArray = (y :: lb).toArray by simp]
    refine ⟨hrelW, ?_, rfl, fun t => ?_⟩
    · simp only [Array.size_append, Array.size_replicate, List.size_toArray, List.length_cons]; omega
    · rw [look_argE]
      simp only [Nat.zero_le, if_true, Nat.sub_zero]
      have h1 := (Rvs_get t hlbW).2
      by_cases ht : t < (y :: lb).length
      · have : ((y :: lb).toArray ++ Array.replicate (fn.ntmps - (y :: lb).toArray.size) undef).getD t undef = (y :: lb).getD t undef := by
          simp only [Array.getD_eq_getD_getElem?, Array.getElem?_append, List.size_toArray, if_pos ht, List.getD_eq_getElem?_getD, List.getElem?_toArray]
        rw [this]; exact h1
      · have : (AV.raw y :: lbA).getD t .junk = .junk := by simp only [List.getD_eq_getElem?_getD]; rw [List.getElem?_eq_none (by simp only [List.length_cons] at ht ⊢; omega)]; rfl
        rw [this]; trivial
  have piece : ∀ {c : Code} {E : Env} {Q : AEx → Env → Heap → Prop} {m : Nat}, codeOk C nt c = true → codePlain c = true → acode C H0.length [] c E H0 Q → ∀ a V, AtV ρ H0 nt E a V →
      c.wpIn (RF none) m C.P (fun e a' V' => ∃ x E1 H1, e = x.toExit ∧ Q x E1 H1 ∧ St (entV ρ H0 V) nt (look E1) H1 a' V' ∧ V.grownBy V' none) a V := by
    intro c E Q m hk hp h a V hA
    rw [← entV_len ρ H0 V] at h
    refine wpIn_mono (acode_in hC hk hp h a V hA.st) ?_
    rintro e a' V' ⟨x, E1, H1, h1, h2, h3⟩
    refine ⟨x, E1, H1, h1, h2, h3, ?_⟩
    obtain ⟨_, _, ρ2, h4, _⟩ := h3
    exact entV_grown h4
  have weak : ∀ {E1 E2 : Env} {H1 : Heap} {a : Act} {V V' : World}, St (entV ρ H0 V) nt (look E1) H1 a V' → WeakS H0.length E1 H1 E2 H0 → AtV ρ H0 nt E2 a V' := fun hs hw => AtV.of (hw.sound (entV_len _ _ _) hs)
  have grow : ∀ {s : List α} {V V' : World}, J s V → V.grownBy V' none → J s V' := fun hj hg => hJ _ _ _ none hj hg fun r e => by cases e
  refine wpIn_seq (wpIn_mono (piece hok0 hpl0 (h0 y) _ W hA0) ?_)
  rintro e a V ⟨x, E1, H1, rfl, ⟨rfl, hw⟩, hs, hg⟩
  have hA1 := weak hs hw
  have hJ1 := grow hJ0 hg
  clear hs hg hA0 hlbW hJ0 hw
  show (Code.block 0 _).wpIn _ _ _ _ a V
  refine wpIn_block ?_
  let I : Nat → Act → World → Prop := fun j a V => ∃ k, k ≤ xs.length ∧ xs.length - k = j ∧ AtV ρ H0 nt ((0, .raw y) :: EE k) a V ∧ J (xs.take k) V
  have hleast : ∀ a w, (∃ k, I k a w) → ∃ k, I k a w ∧ ∀ m, I m a w → k ≤ m := fun a w ⟨k, hk⟩ => exists_least (fun k => I k a w) k hk
  let ν : Act → World → Nat := fun a w => by classical exact if h : ∃ k, I k a w then Classical.choose (hleast a w h) else 0
  have hν : ∀ a w (h : ∃ k, I k a w), I (ν a w) a w ∧ ∀ m, I m a w → ν a w ≤ m := by
    intro a w h
    have : ν a w = Classical.choose (hleast a w h) := by simp only [ν]; rw [dif_pos h]
    rw [this]
    exact Classical.choose_spec (hleast a w h)
  refine wpIn_loop (fun a w => ∃ k, I k a w) ν ⟨xs.length - 0, 0, Nat.zero_le _, rfl, hA1, hJ1⟩ ?_
  clear hA1 hJ1 a V E1 H1
  intro a V hI
  obtain ⟨⟨k, hk, hkν, hA, hJk⟩, _⟩ := hν a V hI
  clear hI
  refine wpIn_seq (wpIn_seq (wpIn_mono (piece hok1 hpl1 (h1 y k hk) a V hA) ?_))
  rintro e a1' V1 ⟨x, E1, H1, rfl, ⟨rfl, hlk, hw⟩, hs, hg⟩
  have hA1 := weak hs hw
  have hJ1 := grow hJk hg
  have hcv : a1'.eval (.tmp tk) = .bool (decide (k < xs.length)) := by
    obtain ⟨_, _, ρ2, _, he⟩ := hs
    have := he tk
    rw [hlk] at this
    exact this
  clear hs hg hA hJk hw
  show (Code.cond (.tmp tk) .skip (.exit 0)).wpIn _ _ _ _ a1' V1
  refine wpIn_cond hcv ?_
  rcases Nat.lt_or_ge k xs.length with hlt | hge
  rotate_left
  · have hlt : ¬ k < xs.length := by omega
    rw [decide_eq_false hlt]
    refine wpIn_exit ?_
    simp only [Exit.then, Exit.inBlock, if_true]
    refine bodyPost_end (results_none hres _ _ _) hA1.df ⟨⟨_, rfl⟩, xs, rfl, ?_⟩
    rwa [List.take_of_length_le (by omega)] at hJ1
  rw [decide_eq_true hlt]
  refine wpIn_skip ?_
  show (Code.seq (.block 1 _) c2).wpIn _ _ _ _ a1' V1
  refine wpIn_seq (wpIn_block (wpIn_seq (wpIn_region ?_)))
  -- the region with the call
  have h3' := h3 y k hlt
  rw [← entV_len ρ H0 V1] at h3'
  obtain ⟨E', H', htr, hQ⟩ := aops_tr hC (show aops C (entV ρ H0 V1).S.length (entV ρ H0 V1).W ops.toList pre ((0, .raw y) :: EE k) H0 _ from h3')
  obtain ⟨rfl, hq1, hq2, hq3, hq4⟩ := hQ
  have hsz : ops.size = pre.length + 2 := by have := congrArg List.length hops; simpa using this
  have hget : ∀ j (o : Oper), pre[j]? = some o → ops[0 + j]? = some o := fun j o ho => by
    rw [Nat.zero_add, ← Array.getElem?_toList, hops, List.getElem?_append_left (get_lt ho)]; exact ho
  have hgy : ops[pre.length]? = some oy := by rw [← Array.getElem?_toList, hops, List.getElem?_append_right (Nat.le_refl _)]; simp
  have hgn : ops[pre.length + 1]? = some on := by rw [← Array.getElem?_toList, hops, List.getElem?_append_right (by omega)]; simp
  have hrg : List.range ops.size = List.range' 0 pre.length ++ [pre.length, pre.length + 1] := by
    rw [hsz, List.range_eq_range', ← List.range'_append_1]
    simp [List.range'_succ]
  have htr' : Tr C (entV ρ H' V1).S.length (entV ρ H' V1).W ops pre (look ((0, .raw y) :: EE k)) H' (look E') H' := by simpa using htr
  have hwp := tr_part (G := entV ρ H' V1) (nt := nt) hdst (Q := fun e a' V' => e = .normal ∧ St (entV ρ H' V1) nt (look E') H' a' V') hget htr' (fun a w hs => ⟨rfl, hs⟩) a1' V1 hA1.st
  rw [hrg]
  refine ops_in hpl ?_ (fun c a w h => by cases h.1) (fun a w h => by cases h.1) _ _ _ hwp
  rintro a2' V2 ⟨_, hs2⟩
  have hA2 : AtV ρ H' nt E' a2' V2 := AtV.of hs2
  have hJ2 : J (xs.take k) V2 := by
    obtain ⟨_, _, ρ2, h4, _⟩ := hs2
    exact grow hJ1 (entV_grown h4)
  obtain ⟨fn', tmps', assign, body, hrun, hround⟩ := hY (xs.take k) xs[k] V2 hJ2 (by rw [List.length_take]; omega)
  have hva := hA2.tm ta
  have hvb := hA2.tm tb
  have hvc := hA2.tm tc
  rw [hq2] at hva
  rw [hq3] at hvb
  rw [hq1] at hvc
  have henc' := henc _ _ _ _ _ _ hva hvb
  have hwant : ∀ (o : Oper) f, o.guard = none → Region.wanted o f = true := fun o f h => by simp [Region.wanted, h]
  simp only [wpOpsIn, hgy, hgn, hwant oy _ hy2, hwant on _ hn2, if_true]
  refine ⟨fun _ _ => trivial, ?_⟩
  rw [Oper.semAt_eq _ _ _ (fun c h => by rw [hy1] at h; cases h)]
  have hexec : (execOp a2'.eval oy).run C.P V2 = .ok (.round l fn' tmps' assign body) V2 := by
    rw [execOp.eq_1]
    have hvc' : a2'.eval (.tmp tc) = .func (.yield l) #[] #[] := by rw [← hyv]; exact hvc
    have hargs' : (#[Operand.tmp ta, Operand.tmp tb] : Array Operand).map a2'.eval = encs xs[k] := by rw [henc', List.map_toArray]; rfl
    simp only [hy1, resolve, hvc', Deferred.ofValue, Sem.run_bind, Sem.run_pure, Result.andThen_ok, invoke]
    simp only [Array.empty_append, Array.append_empty, hargs']
    exact hrun
  rw [hexec, Oper.uponIn_round]
  refine ⟨fun h => by simp [RF, Fence.wide] at h, hround.mono ?_⟩
  rintro e V3 ⟨rfl, hJ3, hk3⟩
  have hr3 : Rel ρ H' V3 := hk3 hA2.rel
  have hA3 : AtV ρ H' nt ((ty, .bool true) :: (0, .raw y) :: EE k) (a2'.put oy.dst (.bool true)) V3 := by
    rw [hy3]
    have hkeep : ∀ t, t ≠ ty → Rv ρ (shs H') V3 (look ((0, .raw y) :: EE k) t) (a2'.tmps.getD t undef) := by
      intro t _
      by_cases hm : ∃ v, (t, v) ∈ ((0, AV.raw y) :: EE k)
      · obtain ⟨v, hm⟩ := hm
        have h5 := hq4 _ hm
        simp only at h5
        have h6 := hA2.tm t
        rw [h5] at h6
        have hin : ∀ L : Env, (∀ p ∈ L, ∀ ρ S w w' x, Rv ρ S w p.2 x → Rv ρ S w' p.2 x) → ∀ {x : Value}, Rv ρ (shs H') V2 (look L t) x → Rv ρ (shs H') V3 (look L t) x := by
          intro L
          induction L with
          | nil => intro _ x _; trivial
          | cons p L ih =>
            obtain ⟨s, u⟩ := p
            intro hL x hx
            simp only [look] at hx ⊢
            by_cases hst : s = t
            · rw [if_pos hst] at hx ⊢; exact hL _ List.mem_cons_self _ _ _ _ _ hx
            · rw [if_neg hst] at hx ⊢; exact ih (fun p hp => hL p (List.mem_cons_of_mem _ hp)) hx
        refine hin _ (fun p hp => ?_) h6
        rcases List.mem_cons.1 hp with rfl | hp
        · intro _ _ _ _ _ h; exact h
        · exact (hEE k p hp).2
      · have : ∀ L : Env, (¬ ∃ v, (t, v) ∈ L) → look L t = .junk := by
          intro L
          induction L with
          | nil => intro _; rfl
          | cons p L ih =>
            obtain ⟨s, u⟩ := p
            intro hn
            simp only [look]
            rw [if_neg fun e => hn ⟨u, by rw [e]; exact List.mem_cons_self⟩]
            exact ih fun ⟨v, hv⟩ => hn ⟨v, List.mem_cons_of_mem _ hv⟩
        rw [this _ hm]; trivial
    refine ⟨hr3, by simp [Act.put, hA2.nt], hA2.df, fun t => ?_⟩
    show Rv ρ _ V3 _ ((a2'.tmps.setIfInBounds ty (.bool true)).getD t undef)
    rw [tset_get (by rw [hA2.nt]; exact hty)]
    by_cases ht : t = ty
    · subst ht; simp only [look, if_true]; rfl
    · rw [if_neg ht]
      have : look ((ty, .bool true) :: (0, .raw y) :: EE k) t = look ((0, .raw y) :: EE k) t := by simp only [look]; rw [if_neg fun e => ht e.symm]
      rw [this]
      exact hkeep t ht
  -- 'not'
  have hE3 : ∀ t, Rv ρ (shs H') V3 (look ((ty, .bool true) :: (0, .raw y) :: EE k) t) ((a2'.put oy.dst (.bool true)).tmps.getD t undef) := hA3.tm
  have hop : on.wp C.P (a2'.put oy.dst (.bool true)) V3 (fun a4 V4 => AtV ρ H' nt ((tn, .bool false) :: (0, .raw y) :: EE k) a4 V4 ∧ V3.grownBy V4 none) (fun _ _ _ => False) := by
    refine step_not (G := entV ρ H' V3) (H := H') (a := true) hn1 (by simp [ev, look]) ρ _ _ _ _ (entV_inv hr3) (fun t _ => hE3 t) ?_
    intro x w' ρ' h4 h5 h6
    refine ⟨AtV.of (V := V3) ?_, entV_grown h4⟩
    have hst := St.put (d := some tn) (E := look ((ty, .bool true) :: (0, .raw y) :: EE k)) (nt := nt) (G := entV ρ H' V3) hA3.nt hA3.df hE3 (fun t h => by cases h; exact htn) h4 h5 h6
    rw [← hn3] at hst
    obtain ⟨s1, s2, ρ3, s3, s4⟩ := hst
    refine ⟨s1, s2, ρ3, s3, fun t => ?_⟩
    have h7 := s4 t
    rw [hn3] at h7 ⊢
    simp only [updE] at h7
    by_cases ht : t = tn
    · subst ht; rw [if_pos rfl] at h7; simp only [look, if_true]; exact h7
    · rw [if_neg ht] at h7
      by_cases ht2 : t = ty
      · subst ht2
        have : look ((tn, .bool false) :: (0, .raw y) :: EE k) t = .junk := by
          have hn : ∀ L : Env, (∀ p ∈ L, p.1 ≠ t) → look L t = .junk := by
            intro L
            induction L with
            | nil => intro _; rfl
            | cons p L ih =>
              obtain ⟨s, u⟩ := p
              intro hn
              simp only [look]
              rw [if_neg (hn _ List.mem_cons_self)]
              exact ih fun p hp => hn p (List.mem_cons_of_mem _ hp)
          refine hn _ fun p hp => ?_
          rcases List.mem_cons.1 hp with rfl | hp
          · exact fun e => ht e.symm
          · rcases List.mem_cons.1 hp with rfl | hp
            · exact fun e => hfr.1 e.symm
            · exact (hfr.2.2.2 k p hp).1
        rw [this]; trivial
      · have : look ((tn, .bool false) :: (0, .raw y) :: EE k) t = look ((ty, .bool true) :: (0, .raw y) :: EE k) t := by
          simp only [look]; rw [if_neg (show ¬ tn = t from fun e => ht e.symm), if_neg (show ¬ ty = t from fun e => ht2 e.symm)]
        rw [this]; exact h7
  refine oper_in (fun c h => by rw [hn1] at h; cases h) ?_ (fun _ _ _ h => h.elim) (fun _ _ h => h) hop
  rintro a4 V4 ⟨hA4, hg4⟩
  show (Code.cond (.tmp tn) .ret .skip).wpIn _ _ _ _ a4 V4
  have hcn : a4.eval (.tmp tn) = .bool false := by have := hA4.tm tn; simp only [look, if_true] at this; exact this
  refine wpIn_cond hcn (wpIn_skip ?_)
  show c2.wpIn _ _ _ _ a4 V4
  have hA5 : AtV ρ H' nt ((0, .raw y) :: EE k) a4 V4 := by
    refine ⟨hA4.rel, hA4.nt, hA4.df, fun t => ?_⟩
    by_cases ht : t = tn
    · subst ht
      have : look ((0, .raw y) :: EE k) t = .junk := by
        have hn : ∀ L : Env, (∀ p ∈ L, p.1 ≠ t) → look L t = .junk := by
          intro L
          induction L with
          | nil => intro _; rfl
          | cons p L ih =>
            obtain ⟨s, u⟩ := p
            intro hn
            simp only [look]
            rw [if_neg (hn _ List.mem_cons_self)]
            exact ih fun p hp => hn p (List.mem_cons_of_mem _ hp)
        refine hn _ fun p hp => ?_
        rcases List.mem_cons.1 hp with rfl | hp
        · exact fun e => hfr.2.1 e.symm
        · exact (hfr.2.2.2 k p hp).2
      rw [this]; trivial
    · have h8 := hA4.tm t
      have : look ((tn, .bool false) :: (0, .raw y) :: EE k) t = look ((0, .raw y) :: EE k) t := by simp only [look]; rw [if_neg fun e => ht e.symm]
      rwa [this] at h8
  refine wpIn_mono (piece hok2 hpl2 (h2 y k hlt) a4 V4 hA5) ?_
  rintro e a5 V5 ⟨x, E5, H5, rfl, ⟨rfl, hw5⟩, hs5, hg5⟩
  have hA6 := weak hs5 hw5
  have hI' : I (xs.length - (k + 1)) a5 V5 := ⟨k + 1, by omega, rfl, hA6, by
    have := grow (grow hJ3 hg4) hg5
    rwa [List.take_append_getElem hlt] at this⟩
  refine ⟨⟨_, hI'⟩, ?_⟩
  have := (hν a5 V5 ⟨_, hI'⟩).2 _ hI'
  omega
theorem iter_rule' {α : Type} {C : Ctx} (hC : C.Ok) {n f nt tc ta tb ty tn tk : Nat} {fn : Func} {c0 c1 c2 : Code} {rid : Nat} (j : Nat) {oy on : Oper} {ops : Array Oper} {tnot : TypeId} {H0 : Heap} {ρ : Nat → Nat} {w : World} {xs : List α} {lbA : List AV} {lb : List Value} {EE : Nat → Env} {a1 a2 : α → AV} {encs : α → Array Value} {ats : Array TypeId}
    (hf : C.P.funcs[f]? = some fn) (hb : fn.body = some (.seq c0 (.block 0 (.loop (.seq (.seq c1 (.cond (.tmp tk) .skip (.exit 0))) (.seq (.block 1 (.seq (.region rid ops false) (.cond (.tmp tn) .ret .skip))) c2))))))
    (hops : ops.toList.drop j = [oy, on]) (hy1 : oy.op = .call ⟨.value (.tmp tc), #[.tmp ta, .tmp tb], ats⟩) (hy2 : oy.guard = none) (hy3 : oy.dst = some ty) (hn1 : on.op = .unOp .not tnot (.tmp ty)) (hn2 : on.guard = none) (hn3 : on.dst = some tn)
    (hnt : fn.ntmps = nt) (hres : fn.results = #[]) (hargs : lbA.length + 1 ≤ nt) (hdst : dstOk nt ops.toList = true) (hpl : plainOps ops = true)
    (hok0 : codeOk C nt c0 = true) (hok1 : codeOk C nt c1 = true) (hok2 : codeOk C nt c2 = true) (hpl0 : codePlain c0 = true) (hpl1 : codePlain c1 = true) (hpl2 : codePlain c2 = true)
    (hrel : Rel ρ H0 w) (hc : ∀ B ∈ H0, B.isC = true) (hlb : Rvs ρ (shs H0) w lbA lb)
    (henc : ∀ x ρ S w v1 v2, Rv ρ S w (a1 x) v1 → Rv ρ S w (a2 x) v2 → encs x = #[v1, v2])
    (hEE : ∀ k, ∀ p ∈ EE k, p.1 ≠ 0 ∧ ∀ ρ S w w' x, Rv ρ S w p.2 x → Rv ρ S w' p.2 x)
    (hfr : ty < nt ∧ tn < nt ∧ ty ≠ 0 ∧ tn ≠ 0 ∧ tn ≠ ty ∧ ∀ k, ∀ p ∈ EE k, p.1 ≠ ty ∧ p.1 ≠ tn)
    (h0 : ∀ y, force H0.length fun n => force (argE (.raw y :: lbA) 0) fun E => acode C n [] c0 E H0 fun ex E1 H1 => ex = .normal ∧ WeakS H0.length E1 H1 ((0, .raw y) :: EE 0) H0)
    (h1 : ∀ y k, k ≤ xs.length → force H0.length fun n => acode C n [] c1 ((0, .raw y) :: EE k) H0 fun ex E1 H1 => ex = .normal ∧ look E1 tk = .bool (decide (k < xs.length)) ∧ WeakS H0.length E1 H1 ((0, .raw y) :: EE k) H0)
    (h2 : ∀ y k, k < xs.length → force H0.length fun n => acode C n [] c2 ((0, .raw y) :: EE k) H0 fun ex E1 H1 => ex = .normal ∧ WeakS H0.length E1 H1 ((0, .raw y) :: EE (k + 1)) H0)
    (h3 : ∀ y k (hk : k < xs.length), force H0.length fun n => force ops.toList fun l => force (l.take j) fun pre => aops C n [] l pre ((0, .raw y) :: EE k) H0 fun E1 H1 => H1 = H0 ∧ look E1 tc = .raw y ∧ look E1 ta = a1 xs[k] ∧ look E1 tb = a2 xs[k] ∧ ∀ p ∈ ((0, AV.raw y) :: EE k), look E1 p.1 = look ((0, AV.raw y) :: EE k) p.1) :
    SeqGoes n C.P f lb.toArray encs (fun W W' => Rel ρ H0 W → Rel ρ H0 W') (fun ys => ys = xs) xs.length w :=
  iter_rule hC hf hb (by rw [← hops, List.take_append_drop]) hy1 hy2 hy3 hn1 hn2 hn3 hnt hres hargs hdst hpl hok0 hok1 hok2 hpl0 hpl1 hpl2 hrel hc hlb henc hEE h0 h1 h2 h3 hfr.1 hfr.2.1 hfr.2.2
end Ink
/- A function that holds a range over a function: from its pieces to its contract. No conditions. -/
namespace Ink
open Go Go.RowKit

def finM (C : Ctx) (G : Ent) (nt : Nat) (rs : List ResultVar) (v : AV) (H' : Heap) : Exit → Act → World → Prop := fun e a w =>
  (e = .normal ∨ e = .ret) ∧ ∃ (E : Env) (H2 : Heap) (ρ2 : Nat → Nat), a.tmps.size = nt ∧ (a.defers = [] ∨ ∃ D, a.defers = [{ target := .collected D, args := #[] }] ∧ w.heap[D]? = some (.deferred (some [])) ∧ G.w.heap.size ≤ D ∧ ∀ B ∈ H2, B.isC = true) ∧
    Inv G ρ2 H2 w ∧ (∀ t, Rv ρ2 (shs H2) w (look E t) (a.tmps.getD t undef)) ∧ ares C E H2 rs fun l => fin G.S.length (one l) H2 v H'

theorem acall_marks {C : Ctx} (hC : C.Ok) {f : FuncId} {fn : Func} {c : Code} {W : List Nat} {args : List AV} {H H' : Heap} {v : AV} (hf : C.P.funcs[f]? = some fn) (hb : fn.body = some c)
    (hname : (fn.name == "runtime.NumGoroutine") = false) {rs : List ResultVar} (hrs : fn.results.toList = rs) (hargs : args.length ≤ fn.ntmps) {k : Nat}
    (h : ∀ ρ w a, St ⟨ρ, w, shs H, W, fun _ => True, []⟩ fn.ntmps (look (argE args 0)) H a w → c.wpIn (RF none) k C.P (finM C ⟨ρ, w, shs H, W, fun _ => True, []⟩ fn.ntmps rs v H') a w) : ACall C.P W f args H v H' := by
  subst hrs
  refine ⟨⟨fn, hf, hname, by simp [hb]⟩, fun ρ w vs hrel hvs => ?_⟩
  have hlen := (Rvs_get 0 hvs).1
  have hn : (shs H).length = H.length := shs_length
  have hinv : Inv ⟨ρ, w, shs H, W, fun _ => True, []⟩ ρ H w := ⟨hrel, rfl, rfl, rfl, Nat.le_refl _, fun _ _ _ _ => rfl, fun _ => Nat.le_refl _, fun _ _ => rfl, fun i h1 h2 _ => by simp only [hn] at h1; omega, List.prefix_refl _⟩
  have hst : St ⟨ρ, w, shs H, W, fun _ => True, []⟩ fn.ntmps (look (argE args 0)) H { tmps := vs.toArray ++ Array.replicate (fn.ntmps - vs.toArray.size) undef, defers := [] } w := by
    refine ⟨by simp; omega, rfl, ρ, hinv, fun t => ?_⟩
    rw [look_argE]
    simp only [Nat.zero_le, if_true, Nat.sub_zero]
    have h1 := (Rvs_get t hvs).2
    by_cases ht : t < vs.length
    · have : (vs.toArray ++ Array.replicate (fn.ntmps - vs.toArray.size) undef).getD t undef = vs.getD t undef := by
        simp [Array.getElem?_append, ht, List.getD]
      rw [this]; exact h1
    · have : args.getD t .junk = .junk := by simp [List.getD, List.getElem?_eq_none (show args.length ≤ t by omega)]
      rw [this]; trivial
  refine (callsIn_wide (n := k)).1 (show CallsIn (RF none) k C.P f vs.toArray w _ from ?_)
  refine callsIn_of_wp_marks hf hb trivial (wpIn_mono (h ρ w _ hst) ?_) rfl
  rintro e a w' ⟨he, E, H2, ρ2, hts, hdf, hi, hv, hr⟩
  have main : LeavesInM (RF none) k C.P fn a.tmps (fun e w' => ∃ x ρ', e = .returned x ∧ Inv ⟨ρ, w, shs H, W, fun _ => True, []⟩ ρ' H' w' ∧ Rv ρ' (shs H') w' v x) a.defers .returning w' := by
    have fin1 : ∀ w2, Inv ⟨ρ, w, shs H, W, fun _ => True, []⟩ ρ2 H2 w2 → (∀ t, Rv ρ2 (shs H2) w2 (look E t) (a.tmps.getD t undef)) → ∃ x, (results fn a.tmps).run C.P w2 = .ok x w2 ∧ ∃ y ρ', Ending.returned x = Ending.returned y ∧ Inv ⟨ρ, w, shs H, W, fun _ => True, []⟩ ρ' H' w2 ∧ Rv ρ' (shs H') w2 v y := by
      intro w2 hi hv
      obtain ⟨l, xs, h1, h2, σ, h3, h4, h5⟩ := ares_sound hC hi hv hr
      obtain ⟨h6, h7⟩ := h3.sound rfl hi
      have hres : ∃ y, (results fn a.tmps).run C.P w2 = .ok y w2 ∧ Rv ρ2 (shs H2) w2 (one l) y := by
        rw [results_eq]
        have hm : (fn.results.mapM (resOne a.tmps)).run C.P w2 = .ok xs.toArray w2 := by
          rw [Array.mapM_eq_mapM_toList, Sem.run_map]
          rw [h1]
          rfl
        rw [Sem.run_bind, hm]
        simp only [Result.andThen_ok, Sem.run_pure]
        by_cases hl1 : xs.toArray.size = 1
        · rw [dif_pos hl1]
          match l, xs, h2 with
          | [v], [x], h2 => exact ⟨x, rfl, h2.1⟩
          | [], [], h2 => simp at hl1
          | _ :: _ :: _, _ :: _ :: _, h2 => simp at hl1
        · rw [dif_neg hl1]
          refine ⟨_, rfl, ?_⟩
          match l, xs, h2 with
          | [v], [x], h2 => simp at hl1
          | [], [], h2 => exact ⟨[], rfl, trivial⟩
          | a :: b :: l, x :: y :: xs, h2 => exact ⟨x :: y :: xs, rfl, h2⟩
      obtain ⟨y, hy1, hy2⟩ := hres
      exact ⟨y, hy1, y, _, rfl, h6, h7 h4 (by rw [← h5]; exact hy2)⟩
    rcases hdf with hdf | ⟨D, hdf, hD, hsz, hc⟩
    · rw [hdf]
      exact fin1 w' hi hv
    · rw [hdf]
      have hgr : w'.grownBy (w'.putObj D (.deferred none)) (some D) := grownBy_putObj' w' D _
      have hrow : ∀ r, some D = some r → w.heap.size ≤ r ∧ ∃ o : Obj, w'.heap[r]? = some o ∧ o.isCells = false := fun r e => by cases e; exact ⟨hsz, _, hD, rfl⟩
      refine ⟨by simp, .inl ⟨D, _, rfl, run_takeDeferred hD, ?_⟩⟩
      exact fin1 _ (hi.turn hc hgr hrow) fun t => (hv t).mono ⟨fun _ _ => rfl, List.prefix_refl _, bsz_turn hgr fun r e => (hrow r e).2⟩
  rcases he with rfl | rfl
  · exact main
  · exact main

structure Later (p : Prop) : Prop where
  out : p

theorem seq_a (n : Nat) (W : List Nat) {C : Ctx} (hC : C.Ok) {G : Ent} {nt k : Nat} {c1 c2 : Code} {E : Env} {H : Heap} {Q : Exit → Act → World → Prop} (hok : codeOk C nt c1 = true) (hpl : codePlain c1 = true)
    (hn : G.S.length = n) (hW : G.W = W) (h : acode C n W c1 E H fun ex E1 H1 => ex = .normal ∧ Later (∀ a w, St G nt (look E1) H1 a w → c2.wpIn (RF none) k C.P Q a w)) : ∀ a w, St G nt (look E) H a w → (Code.seq c1 c2).wpIn (RF none) k C.P Q a w := by
  subst hn hW
  intro a w hs
  refine wpIn_seq (wpIn_mono (acode_in hC hok hpl h a w hs) ?_)
  rintro e a w ⟨x, E, H, rfl, ⟨rfl, hq⟩, hs⟩
  exact hq.out a w hs
theorem tail_marks (n : Nat) (W : List Nat) {C : Ctx} (hC : C.Ok) {G : Ent} {nt k D : Nat} {c : Code} {E : Env} {H H' : Heap} {rs : List ResultVar} {v : AV} {ρ : Nat → Nat} {a : Act} {w : World}
    (hinv : Inv G ρ H w) (hc : ∀ B ∈ H, B.isC = true) (htm : ∀ t, Rv ρ (shs H) w (look E t) (a.tmps.getD t undef)) (hnt : a.tmps.size = nt) (hdf : a.defers = [{ target := .collected D, args := #[] }])
    (hD : w.heap[D]? = some (.deferred (some []))) (hDs : G.w.heap.size ≤ D) (hok : codeOk C nt c = true) (hpl : codePlain c = true)
    (hn : G.S.length = n) (hW : G.W = W) (h : acode C n W c E H fun ex E2 H2 => (ex = .normal ∨ ex = .ret) ∧ (∀ B ∈ H2, B.isC = true) ∧ ares C E2 H2 rs fun l => fin n (one l) H2 v H') : c.wpIn (RF none) k C.P (finM C G nt rs v H') a w := by
  subst hn hW
  have hl := hinv.len
  have hst := hinv.start hl G.W a.defers
  have hS := shs_take hl
  have hs : St ⟨ρ, w, shs (H.take G.S.length), G.W, apartK ρ H G.S.length, a.defers⟩ nt (look E) H a w := ⟨hnt, rfl, ρ, hst, htm⟩
  rw [← show (Ent.mk ρ w (shs (H.take G.S.length)) G.W (apartK ρ H G.S.length) a.defers).S.length = G.S.length from hS] at h
  refine wpIn_mono (acode_in hC hok hpl h a w hs) ?_
  rintro e a' w' ⟨x, E2, H2, rfl, ⟨hx, hc2, hr⟩, hts, hdf2, ρ2, hi2, hv2⟩
  rw [show (Ent.mk ρ w (shs (H.take G.S.length)) G.W (apartK ρ H G.S.length) a.defers).S.length = G.S.length from hS] at hr
  refine ⟨?_, E2, H2, ρ2, hts, .inr ⟨D, hdf2.trans hdf, hi2.keeps hinv.rel hc hl hD rfl, hDs, hc2⟩, hinv.sub (Nat.le_refl _) hl (fun i hi _ => .inr hi) hi2, hv2, hr⟩
  rcases hx with rfl | rfl
  · exact .inl rfl
  · exact .inr rfl
end Ink
/- A stack turned over. No conditions. -/
namespace Ink
open Go
theorem zgv {σ : Nat → Nat} {x : Value} : ren σ (.raw x) = .raw x := by unfold ren; rfl
theorem zgw {m : Nat} {x : Value} : inScope m (.raw x) = True := by unfold inScope; rfl
theorem lies_win {f : Nat} {σ : Sh} {x : DV} : Lies (.win f σ [x]) [0] f σ x := ⟨by simp [Blk.sh, BSh.at?, Sh.at?], rfl, fun _ _ _ _ h => h⟩
def mirM (s : SheetM) : SheetM := movedM s s.w s.h (mirX s) sameY
def turnL (L : List SheetM) : List SheetM := L.reverse.map mirM
theorem turnL_len {L : List SheetM} : (turnL L).length = L.length := by simp [turnL]
theorem turn_take {L : List SheetM} {k : Nat} (hk : k < L.length) : (turnL L).take (k + 1) = (turnL L).take k ++ [mirM L[L.length - 1 - k]] := by
  have h : k < (turnL L).length := by rw [turnL_len]; exact hk
  rw [← List.take_append_getElem h]
  congr 2
  simp [turnL]
theorem turn_all {L : List SheetM} : (turnL L).take L.length = turnL L := by rw [← turnL_len, List.take_length]
theorem tkD_len {L : List SheetM} {k : Nat} (hk : k ≤ L.length) : (((turnL L).take k).map sheetD).length = k := by simp [turnL_len]; omega
theorem Gd_of {ρ : Nat → Nat} {H : Heap} {W : World} {bx b len : Nat} {e : Sh} {l : List DV} {wr : Bool} (h : Rel ρ H W) (h1 : H[bx]? = some (.ref (.slc b 0 len))) (h2 : H[b]? = some (.seq wr e l)) :
    Rel (fun i => if i = 0 then ρ bx else ρ b) [.ref (.slc 1 0 len), .seq false e l] W := by
  refine ⟨fun i B hi => ?_, fun i j A B hi hj hne hw hl => ?_⟩
  · match i, hi with
    | 0, hi =>
      simp at hi; subst hi
      obtain ⟨v, T, h3, h4⟩ := h.blk bx _ h1
      refine ⟨v, T, h3, ?_⟩
      obtain ⟨e', h5, h6⟩ := h4
      have : e' = e := by rw [shs_get h2] at h5; cases h5; rfl
      subst this
      exact ⟨e', rfl, h6⟩
    | 1, hi =>
      simp at hi; subst hi
      obtain ⟨h3, c, T, fz, h4, h5, _⟩ := h.blk b _ h2
      exact ⟨h3, c, T, fz, h4, h5, fun e => by cases e⟩
    | i + 2, hi => simp at hi
  · have hbb : bx ≠ b := fun e => by rw [e, h2] at h1; cases h1
    match i, j, hi, hj with
    | 0, 0, _, _ => exact absurd rfl hne
    | 0, 1, hi, hj =>
      simp at hi hj; subst hi; subst hj
      exact h.sep bx b _ _ h1 h2 hbb rfl rfl
    | 1, _, hi, _ => simp at hi; subst hi; cases hw
    | i + 2, _, hi, _ => simp at hi
    | 0, j + 2, _, hj => simp at hj
end Ink
