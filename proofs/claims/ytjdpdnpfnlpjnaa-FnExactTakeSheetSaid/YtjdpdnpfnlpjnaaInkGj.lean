/- Contracts of functions of the program, by the texts that it imports. No conditions. -/
import Derived.Test.YtjdpdnpfnlpjnaaInkGi
import Derived.Test.YtjdpdnpfnlpjnaaInkGg
set_option linter.unusedVariables false
set_option linter.unusedSimpArgs false
/- Writers of two blocks that look at a third one; what the program means: the least share. No conditions. -/
namespace Ink
open Go
section
variable {s : SheetM} {b : BrushM} {N : List SpotM} {least : Int} {k : Nat}
end
end Ink
/- What the program means: rinsing till a sheet is light. No conditions. -/
namespace Ink
open Go
section
variable {s : SheetM} {share : Int} {st : RinM} {x y k : Nat}
end
section
variable {s : SheetM} {share level c : Int} {i : Nat}
end
end Ink
/- What the program means: pressing a fold. No conditions. -/
namespace Ink
open Go
set_option linter.unusedVariables false
def goes (a b w : Int) : Int := if b < a then ((a - b) * w).tdiv 16 else -(((b - a) * w).tdiv 16)
abbrev PrsM := SheetM × Int
structure Prs (s t : SheetM) : Prop where
  ok : t.Ok
  dye : dyeOk t
  wet : wetOk t
  w : t.w = s.w
  h : t.h = s.h
theorem Prs.small {s t : SheetM} (h : Prs s t) (hm : small s) : small t := by
  have := h.w; have := h.h
  unfold Ink.small at *
  omega
section
variable {s t : SheetM} {p : PairM} {k : Nat} {w d : Int}
end
structure PrsOk (s : SheetM) (c : Int) (st : PrsM) : Prop where
  ok : Prs s st.1
  n : 0 ≤ st.2 ∧ st.2 ≤ c
section
variable {s : SheetM} {p : PairM} {k : Nat} {w c : Int} {st : PrsM}
end
section
variable {s : SheetM} {f : FoldM} {most c : Int} {k : Nat}
end
end Ink
/- What one passing over reads and writes. No conditions. -/
namespace Ink
open Go
set_option linter.unusedVariables false
section
variable {t : SheetM} {p : PairM} {k : Nat} {w d : Int}
end
end Ink
/- Lists of sheets that come from outside, and lists of sheets that are filled. No conditions. -/
namespace Ink
open Go Go.ChangeShapes Go.WideShapes Go.RowKit
def valI : DV → Int
  | .int _ n => n
  | _ => 0
def nth : DV → Nat → DV
  | .arr f, i => f i
  | d, _ => d
theorem wfu8 {n : Int} (h : (Lit.int .u8 n).wf = true) : 0 ≤ n ∧ n < 256 := by
  simp [Lit.wf, IntKind.min, IntKind.max, IntKind.signed, IntKind.bits] at h; omega
theorem leaf_of {k : IntKind} {v : DV} (h : Has (.int k) v) (hw : Wf (.int k) v) : v = .int k (valI v) ∧ (Lit.int k (valI v)).wf = true := by
  match v, h, hw with
  | .int j n, h, hw => cases h; exact ⟨rfl, hw⟩
theorem arr_of {n : Nat} {e : Sh} {v : DV} (h : Has (.arr n e) v) (hw : Wf (.arr n e) v) : (∀ i, i < n → Has e (nth v i) ∧ Wf e (nth v i)) ∧ flat (.arr n e) v = (List.range n).flatMap fun i => flat e (nth v i) := by
  match v, h, hw with
  | .arr f, h, hw => exact ⟨fun i hi => ⟨h i hi, hw i hi⟩, rfl⟩
theorem flat_arr {n : Nat} {e : Sh} {f : Nat → DV} : flat (.arr n e) (.arr f) = (List.range n).flatMap fun i => flat e (f i) := rfl
theorem sheetX_of {v : DV} (h : Has shSheet v) (hw : Wf shSheet v) : ∃ s : SheetM, s.Ok ∧ flat shSheet v = flat shSheet (sheetD s) := by
  match v, h, hw with
  | .cons (.int _ a) (.cons (.int _ b) (.cons vw (.cons vd (.cons vx .unit)))), h, hw =>
    obtain ⟨rfl, rfl, h3, h4, h5, _⟩ := h
    obtain ⟨w1, w2, w3, w4, w5, _⟩ := hw
    obtain ⟨p3, q3⟩ := arr_of h3 w3
    obtain ⟨p4, q4⟩ := arr_of h4 w4
    obtain ⟨p5, q5⟩ := arr_of h5 w5
    have r3 := fun i (hi : i < 8) => arr_of (p3 i hi).1 (p3 i hi).2
    have r4 := fun i (hi : i < 8) => arr_of (p4 i hi).1 (p4 i hi).2
    have t4 := fun i (hi : i < 8) j (hj : j < 8) => arr_of ((r4 i hi).1 j hj).1 ((r4 i hi).1 j hj).2
    have l3 := fun i (hi : i < 8) j (hj : j < 8) => leaf_of ((r3 i hi).1 j hj).1 ((r3 i hi).1 j hj).2
    have l4 := fun i (hi : i < 8) j (hj : j < 8) k (hk : k < 3) => leaf_of ((t4 i hi j hj).1 k hk).1 ((t4 i hi j hj).1 k hk).2
    have l5 := fun i (hi : i < 8) => leaf_of (p5 i hi).1 (p5 i hi).2
    refine ⟨⟨a, b, fun i j => if i < 8 ∧ j < 8 then valI (nth (nth vw i) j) else 0, fun i j k => if i < 8 ∧ j < 8 ∧ k < 3 then valI (nth (nth (nth vd i) j) k) else 0, fun i => if i < 8 then valI (nth vx i) else 0⟩, ⟨wf8 w1, wf8 w2, fun i j => ?_, fun i j k => ?_, fun i => ?_⟩, ?_⟩
    · dsimp only
      split
      · rename_i hc; exact wf16 (l3 i hc.1 j hc.2).2
      · omega
    · dsimp only
      split
      · rename_i hc; exact wf16 (l4 i hc.1 j hc.2.1 k hc.2.2).2
      · omega
    · dsimp only
      split
      · rename_i hc; exact wfu8 (l5 i hc).2
      · omega
    · have f3 : flat (.arr 8 (.arr 8 (.int .i16))) vw = flat (.arr 8 (.arr 8 (.int .i16))) (a2 .i16 fun i j => if i < 8 ∧ j < 8 then valI (nth (nth vw i) j) else 0) := by
        rw [q3]
        unfold a2
        rw [flat_arr]
        refine flatMap_ext fun i hi => ?_
        rw [(r3 i hi).2]
        unfold a1
        rw [flat_arr]
        refine flatMap_ext fun j hj => ?_
        dsimp only
        rw [(l3 i hi j hj).1, if_pos ⟨hi, hj⟩]
        rfl
      have f4 : flat (.arr 8 (.arr 8 (.arr 3 (.int .i16)))) vd = flat (.arr 8 (.arr 8 (.arr 3 (.int .i16)))) (a3 .i16 fun i j k => if i < 8 ∧ j < 8 ∧ k < 3 then valI (nth (nth (nth vd i) j) k) else 0) := by
        rw [q4]
        unfold a3
        rw [flat_arr]
        refine flatMap_ext fun i hi => ?_
        rw [(r4 i hi).2]
        unfold a2
        rw [flat_arr]
        refine flatMap_ext fun j hj => ?_
        rw [(t4 i hi j hj).2]
        unfold a1
        rw [flat_arr]
        refine flatMap_ext fun k hk => ?_
        dsimp only
        rw [(l4 i hi j hj k hk).1, if_pos ⟨hi, hj, hk⟩]
        rfl
      have f5 : flat (.arr 8 (.int .u8)) vx = flat (.arr 8 (.int .u8)) (a1 .u8 fun i => if i < 8 then valI (nth vx i) else 0) := by
        rw [q5]
        unfold a1
        rw [flat_arr]
        refine flatMap_ext fun i hi => ?_
        dsimp only
        rw [(l5 i hi).1, if_pos hi]
        rfl
      show [Value.int .i8 a] ++ ([Value.int .i8 b] ++ (flat _ vw ++ (flat _ vd ++ (flat _ vx ++ [])))) = [Value.int .i8 a] ++ ([Value.int .i8 b] ++ (flat _ (a2 .i16 _) ++ (flat _ (a3 .i16 _) ++ (flat _ (a1 .u8 _) ++ []))))
      rw [f3, f4, f5]
/-! ### Lists of sheets -/
def fillS (N : List SheetM) (i : Nat) : List DV := (N.take i ++ List.replicate (N.length - i) zeroSheet).map sheetD
section
variable {N : List SheetM} {i : Nat}
theorem fillS_zero : fillS N 0 = List.replicate N.length (sheetD zeroSheet) := by unfold fillS; simp
theorem fillS_all : fillS N N.length = N.map sheetD := by unfold fillS; simp
theorem fillS_get (h : i < N.length) : (fillS N i)[i]? = some (sheetD zeroSheet) := by
  unfold fillS
  rw [List.getElem?_map, List.getElem?_append_right (by simp; omega), List.getElem?_replicate]
  rw [if_pos (by simp; omega)]
  rfl
theorem fillS_set (h : i < N.length) : (fillS N i).set i (sheetD N[i]) = fillS N (i + 1) := by
  unfold fillS
  rw [← List.map_set]
  congr 1
  rw [List.set_append_right _ _ (by simp; omega), List.take_succ_eq_append_getElem h, List.append_assoc]
  congr 1
  rw [show i - (N.take i).length = 0 by simp; omega, show N.length - i = (N.length - (i + 1)) + 1 by omega, List.replicate_succ]
  rfl
end
end Ink
/- A reader that is proved for a view of one value (a window of one) reads a value that lies anywhere in a block. No conditions. -/
namespace Ink
open Go
def freeA : AV → Bool
  | .int _ _ => true
  | .bool _ => true
  | .str _ => true
  | .agg _ _ => true
  | .slc (_ + 1) _ _ => true
  | _ => false
theorem freeA_Rv {a : AV} (h : freeA a = true) {ρ : Nat → Nat} {S S' : BSh} {T : List BSh} {w : World} {x : Value} (hr : Rv ρ (S :: T) w a x) : Rv ρ (S' :: T) w a x := by
  cases a with
  | slc b lo len =>
    cases b with
    | zero => simp [freeA] at h
    | succ b => exact hr
  | int _ _ => exact hr
  | bool _ => exact hr
  | str _ => exact hr
  | agg _ _ => exact hr
  | _ => simp [freeA] at h
theorem freeA_Rvs {S S' : BSh} {T : List BSh} {ρ : Nat → Nat} {w : World} : ∀ {l : List AV} {vs : List Value}, l.all freeA = true → Rvs ρ (S :: T) w l vs → Rvs ρ (S' :: T) w l vs
  | [], [], _, h => h
  | a :: l, v :: vs, hp, h => by
    simp only [List.all_cons, Bool.and_eq_true] at hp
    exact ⟨freeA_Rv hp.1 h.1, freeA_Rvs hp.2 h.2⟩
  | [], _ :: _, _, h => h.elim
  | _ :: _, [], _, h => h.elim
theorem noRef_RB {B : Blk} (h : noRef B = true) {ρ ρ' : Nat → Nat} {S S' : List BSh} {w w' : World} {o : Option Obj} (hr : RB ρ S w B o) : RB ρ' S' w' B o := by
  cases B with
  | ref _ => simp [noRef] at h
  | dead _ => simp [noRef] at h
  | data _ _ => exact hr
  | seq _ _ _ => exact hr
  | win _ _ _ => exact hr
def Lies (B : Blk) (p : List Nat) (o : Nat) (σ : Sh) (x : DV) : Prop :=
  (B.sh).at? p = some (o, σ) ∧ noRef B = true ∧ ∀ ρ S w ob, RB ρ S w B ob → RB ρ S w (.win o σ [x]) ob
theorem Lies.data {σ : Sh} {x : DV} : Lies (.data σ x) [] 0 σ x := by
  refine ⟨by simp [Blk.sh, BSh.at?, Sh.at?], rfl, fun ρ S w ob h => ?_⟩
  obtain ⟨h1, T, h2⟩ := h
  refine ⟨fun y hy => ?_, _, T, _, h2, ?_⟩
  · simp at hy; subst hy; exact h1
  · simpa using LiesAt.self (flat σ x)
theorem Lies.seq {wr : Bool} {σ : Sh} {D : List DV} {i : Nat} {x : DV} (hx : D[i]? = some x) : Lies (.seq wr σ D) [i] (i * σ.size) σ x := by
  refine ⟨by simp [Blk.sh, BSh.at?, Sh.at?], rfl, fun ρ S w ob h => ?_⟩
  obtain ⟨h1, c, T, fz, h2, h3, _⟩ := h
  refine ⟨fun y hy => ?_, c, T, fz, h2, ?_⟩
  · simp at hy; subst hy; exact h1 _ (List.mem_of_getElem? hx)
  · simpa using (flatMap_at h1 hx).upto h3
theorem ACall.view {P : Program} {f : FuncId} {rest : List AV} {σ : Sh} {x : DV} {v : AV} {N : Heap} (h : ∀ o, ACall P [] f (.ptr 0 [0] σ :: rest) [.win o σ [x]] v (.win o σ [x] :: N)) (hrest : rest.all freeA = true) (hv : freeA v = true) (hN : noRefs N = true)
    {B : Blk} {p : List Nat} {o : Nat} (hB : Lies B p o σ x) : ACall P [] f (.ptr 0 p σ :: rest) [B] v (B :: N) := by
  refine ⟨(h 0).1, fun ρ w vs hR hA => ?_⟩
  obtain ⟨hat, hnr, hwin⟩ := hB
  cases vs with
  | nil => exact hA.elim
  | cons y ys =>
    obtain ⟨⟨s, o', hs, ho, hy⟩, hys⟩ := hA
    have hs' : s = B.sh := by
      have : (shs [B])[0]? = some B.sh := rfl
      rw [this] at hs; cases hs; rfl
    subst hs'
    rw [hat] at ho
    cases ho
    have hb0 : RB ρ (shs [B]) w B w.heap[ρ 0]? := hR.blk 0 B rfl
    have hR' : Rel ρ [.win o σ [x]] w := by
      refine ⟨fun i C hi => ?_, fun i j C D hi hj hne _ _ => ?_⟩
      · cases i with
        | zero =>
          simp at hi
          subst hi
          exact noRef_RB (B := .win o σ [x]) rfl (hwin _ _ _ _ hb0)
        | succ i => simp at hi
      · have := get_lt hi
        have := get_lt hj
        simp at *
        omega
    have hA' : Rvs ρ (shs [.win o σ [x]]) w (.ptr 0 [0] σ :: rest) (y :: ys) :=
      ⟨⟨.win o σ, o, rfl, by simp [BSh.at?, Sh.at?], hy⟩, freeA_Rvs hrest hys⟩
    refine ((h o).2 ρ w (y :: ys) hR' hA').mono fun e w' hq => ?_
    obtain ⟨r, ρ', rfl, inv, hr⟩ := hq
    have hsz : ρ 0 < w.heap.size := by
      rcases hw : w.heap[ρ 0]? with _ | ob
      · rw [hw] at hb0
        have := hwin _ _ _ _ hb0
        obtain ⟨_, c, T, fz, h2, _⟩ := this
        cases h2
      · exact (Array.getElem?_eq_some_iff.1 hw).1
    have hpre : ρ' 0 = ρ 0 := inv.pre 0 (by simp [shs])
    have hold : w'.heap[ρ 0]? = w.heap[ρ 0]? := inv.old (ρ 0) hsz fun i hi => by simp at hi
    have hnew : ∀ j, j < N.length → w.heap.size ≤ ρ' (j + 1) := fun j hj => inv.new (j + 1) (by simp [shs]) (by simpa using hj)
    refine ⟨r, ρ', rfl, ⟨⟨fun i C hi => ?_, fun i j C D hi hj hne hC hD => ?_⟩, inv.os, inv.tape, inv.out, inv.size, fun b hb _ => inv.old b hb fun i hi => by simp at hi, inv.sz, fun i hi => inv.pre i (by simpa [shs] using hi), fun i h1 h2 => inv.new i (by simpa [shs] using h1) (by simpa using h2), ⟨shs N, rfl⟩⟩, ?_⟩
    · cases i with
      | zero =>
        simp at hi
        subst hi
        rw [hpre, hold]
        exact noRef_RB hnr hb0
      | succ i =>
        have hi' : N[i]? = some C := by simpa using hi
        have := inv.rel.blk (i + 1) C (by simpa using hi)
        exact noRef_RB (List.all_eq_true.1 hN _ (List.mem_of_getElem? hi')) this
    · cases i with
      | zero =>
        cases j with
        | zero => exact absurd rfl hne
        | succ j =>
          have := hnew j (get_lt (show N[j]? = some D by simpa using hj))
          rw [hpre]; omega
      | succ i =>
        cases j with
        | zero =>
          have := hnew i (get_lt (show N[i]? = some C by simpa using hi))
          rw [hpre]; omega
        | succ j => exact inv.rel.sep (i + 1) (j + 1) C D (by simpa using hi) (by simpa using hj) hne hC hD
    · exact freeA_Rv hv hr
theorem ACall.viewAt {P : Program} {f : FuncId} {rest : List AV} {σ : Sh} {x : DV} {v : AV} (h : ∀ o, ACall P [] f (.ptr 0 [0] σ :: rest) [.win o σ [x]] v [.win o σ [x]]) (hrest : rest.all freeA = true) (hrp : plains rest = true) (hv : freeA v = true) (hvp : plain v = true)
    {H : Heap} {b : Nat} {B : Blk} {p : List Nat} {o : Nat} (hb : H[b]? = some B) (hB : Lies B p o σ x) : ACall P [] f (.ptr b p σ :: rest) H v H := by
  refine (ACall.view (N := []) h hrest hv rfl hB).at1 hB.2.1 hb ?_ ?_ hvp
  · exact ⟨by simp [inScope], (plains_ren (σ := id) hrp).2⟩
  · show (ren _ _ :: rens _ _) = _
    rw [(plains_ren (m := 0) hrp).1]
    simp [ren, kap]
end Ink
/- What the program means: stacks. No conditions. -/
namespace Ink
open Go
def hdS (L : List SheetM) : SheetM := L.headD zeroSheet
def sameW (L : List SheetM) (s : SheetM) : Prop := s.w = (hdS L).w ∧ s.h = (hdS L).h
instance {L s} : Decidable (sameW L s) := by unfold sameW; infer_instance
noncomputable def badS (L : List SheetM) (s : SheetM) : Bool := !decide (validS s) || !decide (sameW L s)
def stackP (L : List SheetM) : Prop := L.length ≤ 6 ∧ ∀ s ∈ L, validS s ∧ sameW L s
noncomputable instance {L} : Decidable (stackP L) := Classical.propDecidable _
section
variable {L : List SheetM} {i : Nat} {s : SheetM}
theorem badS_iff : badS L s = false ↔ validS s ∧ sameW L s := by
  unfold badS
  rw [Bool.or_eq_false_iff, Bool.not_eq_false', Bool.not_eq_false', decide_eq_true_eq, decide_eq_true_eq]
theorem hd_get (h : 0 < L.length) : L[0]? = some (hdS L) := by
  cases L with
  | nil => simp at h
  | cons a l => rfl
theorem stack_any : L.any (badS L) = false ↔ ∀ s ∈ L, validS s ∧ sameW L s := by
  rw [List.any_eq_false]
  constructor
  · intro h s hs
    exact badS_iff.1 (by have := h s hs; simpa using this)
  · intro h s hs
    rw [badS_iff.2 (h s hs)]
    decide
theorem stack_ok (h : L.length ≤ 6) (ha : L.any (badS L) = false) : stackP L := ⟨h, stack_any.1 ha⟩
theorem stack_no (ha : L.any (badS L) = true) : ¬ stackP L := fun h => by
  have := stack_any.2 h.2
  rw [ha] at this
  cases this
theorem stack_big (h : ¬ L.length ≤ 6) : ¬ stackP L := fun g => h g.1
end
noncomputable def stC (L : List SheetM) (r : Bool) : Int := if ¬ stackP L then 1 else if r = true then 0 else 2
theorem stC_cases (L : List SheetM) (r : Bool) : (stC L r = 0 ∧ stackP L ∧ r = true) ∨ (stC L r = 1 ∧ ¬ stackP L) ∨ (stC L r = 2 ∧ stackP L ∧ r = false) := by
  unfold stC
  by_cases h : stackP L
  · cases r <;> simp [h]
  · simp [h]
/-! Dyes and water of a stack -/
theorem nS_all {N : List SheetM} (h : ∀ s ∈ N, s.Ok) : ∀ s ∈ N.map nS, s.Ok := fun s hs => by
  obtain ⟨t, ht, rfl⟩ := List.mem_map.1 hs
  exact nS_Ok (h t ht)
theorem nS_len {N : List SheetM} {c : Nat} (h : N.length ≤ c) : (N.map nS).length ≤ c := by rw [List.length_map]; exact h
theorem nil_all : ∀ s ∈ ([] : List SheetM), s.Ok := fun s h => by simp at h
end Ink
/- What the program means: drying of stacks. No conditions. -/
namespace Ink
open Go
set_option linter.unusedVariables false
section
variable {s t : SheetM} {b : Int} {n m N : Nat}
end
structure Dry (s t : SheetM) : Prop where
  ok : t.Ok
  wet : wetOk t
  w : t.w = s.w
  h : t.h = s.h
  out : ∀ y < 8, ∀ x < 8, ¬ (x < s.w.toNat ∧ y < s.h.toNat) → t.wet y x = 0
section
variable {s t : SheetM} {b : Int} {n m N : Nat}
theorem Dry.small (h : Dry s t) (hm : small s) : small t := by
  have := h.w; have := h.h
  unfold Ink.small at *
  omega
end
/-! Stacks -/
section
variable {L M : List SheetM} {rate : Int} {i j : Nat} {s : SheetM}
theorem getD_of (h : i < L.length) : L.getD i zeroSheet = L[i] := by rw [List.getD_eq_getElem?_getD, List.getElem?_eq_getElem h]; rfl
end
structure DryL (L M : List SheetM) : Prop where
  len : M.length = L.length
  at_ : ∀ (i : Nat) (h : i < M.length) (h' : i < L.length), Dry L[i] M[i]
section
variable {L M : List SheetM} {rate : Int} {i j : Nat} {s : SheetM}
theorem DryL.set (h : DryL L M) (hi : i < L.length) (hs : Dry L[i] s) : DryL L (M.set i s) := by
  refine ⟨by simpa using h.len, fun j h1 h2 => ?_⟩
  rw [List.getElem_set]
  split
  · rename_i e; subst e; exact hs
  · exact h.at_ j (by simpa using h1) h2
end
section
variable {L : List SheetM} {rate c : Int} {k : Nat}
theorem set_map {X : List SheetM} {i : Nat} {u u' : SheetM} : ((X.set i u).map sheetD).set i (sheetD u') = (X.set i u').map sheetD := by rw [← List.map_set, List.set_set]
theorem setEl_get {X : List SheetM} {i : Nat} {u : SheetM} (h : i < X.length) : ((X.set i u).map sheetD)[i]? = some (sheetD u) := by
  rw [List.getElem?_map, List.getElem?_set_self h]; rfl
end
end Ink
/- What the laws do with stacks: marks that are set and looked at. No conditions. -/
namespace Ink
open Go
def mkWax (k : Int) (s : SheetM) : Nat → SheetM
  | 0 => s
  | j + 1 => { mkWax k s j with wax := u1 (mkWax k s j).wax j (IntKind.u8.wrap (k + j)) }
def mkHd (k : Int) (s : SheetM) : SheetM := { s with w := IntKind.i8.wrap k, h := IntKind.i8.wrap (k + 1) }
def mkS (k : Int) (s : SheetM) : SheetM := mkWax (k + 2) (mkHd k s) 8
def markTo (L : List SheetM) (k : Int) : Nat → List SheetM
  | 0 => L
  | i + 1 => (markTo L k i).set i (mkS (k + 10 * (i : Int)) (L.getD i zeroSheet))
section
variable {L : List SheetM} {k : Int} {s : SheetM} {i j n : Nat}
theorem mkWax_zero : mkWax k s 0 = s := rfl
theorem mkWax_succ : mkWax k s (j + 1) = { mkWax k s j with wax := u1 (mkWax k s j).wax j (IntKind.u8.wrap (k + j)) } := rfl
theorem mkWax_wh : (mkWax k s j).w = s.w ∧ (mkWax k s j).h = s.h := by
  induction j with
  | zero => exact ⟨rfl, rfl⟩
  | succ j ih => exact ih
theorem mkWax_at (h : i < j) : (mkWax k s j).wax i = IntKind.u8.wrap (k + i) := by
  induction j with
  | zero => omega
  | succ j ih =>
    rw [mkWax_succ]
    dsimp only
    rw [u1_at]
    by_cases e : i = j
    · subst e; rw [if_pos rfl]
    · rw [if_neg e]; exact ih (by omega)
theorem mkS_w : (mkS k s).w = IntKind.i8.wrap k := mkWax_wh.1
theorem mkS_h : (mkS k s).h = IntKind.i8.wrap (k + 1) := mkWax_wh.2
theorem mkS_wax (h : j < 8) : (mkS k s).wax j = IntKind.u8.wrap (k + 2 + j) := mkWax_at h
theorem markTo_zero : markTo L k 0 = L := rfl
theorem markTo_len : (markTo L k i).length = L.length := by
  induction i with
  | zero => rfl
  | succ i ih => rw [markTo]; simpa using ih
theorem markTo_later (h : i ≤ j) : (markTo L k i)[j]? = L[j]? := by
  induction i with
  | zero => rfl
  | succ i ih =>
    rw [markTo, List.getElem?_set_ne (by omega)]
    exact ih (by omega)
theorem markTo_succ (h : i < L.length) : markTo L k (i + 1) = (markTo L k i).set i (mkS (k + 10 * (i : Int)) L[i]) := by rw [markTo, getD_of h]
theorem markTo_at : ∀ n, n ≤ L.length → ∀ i < n, ∃ s, (markTo L k n)[i]? = some (mkS (k + 10 * (i : Int)) s) := by
  intro n
  induction n with
  | zero => intro _ i h; omega
  | succ n ih =>
    intro hn i hi
    rw [markTo_succ hn]
    by_cases e : i = n
    · subst e
      exact ⟨_, List.getElem?_set_self (by rw [markTo_len]; exact hn)⟩
    · rw [List.getElem?_set_ne (fun g => e g.symm)]
      exact ih (by omega) i (by omega)
end
end Ink
/- Lists of numbers: what a stack's sheets are reached by, and marks. No conditions. -/
namespace Ink
open Go
section
variable {L : List SheetM} {X : List Int} {q i j : Nat} {k : Int}
end
end Ink
/- A sheet taken out of a list. No conditions. -/
namespace Ink
open Go
theorem ACall.resW {P : Program} {W : List Nat} {f : FuncId} {args : List AV} {H H' : Heap} {v v' : AV} (h : ACall P W f args H v H') (hv : ∀ ρ S w x, Rv ρ S w v x → Rv ρ S w v' x) : ACall P W f args H v' H' :=
  ⟨h.1, fun ρ w vs a b => (h.2 ρ w vs a b).mono fun e w' hq => by
    obtain ⟨x, ρ', h1, h2, h3⟩ := hq
    exact ⟨x, ρ', h1, h2, hv _ _ _ _ h3⟩⟩
def outL (L : List SheetM) (i : Nat) : List SheetM := L.take i ++ L.drop (i + 1)
section
variable {L : List SheetM} {i : Nat}
theorem outL_len (h : i < L.length) : (outL L i).length = L.length - 1 := by unfold outL; simp; omega
theorem outL_D : (outL L i).map sheetD = (L.map sheetD).take i ++ (L.map sheetD).drop (i + 1) := by unfold outL; rw [List.map_append, List.map_take, List.map_drop]
theorem out_in (h : i < L.length) : (L.map sheetD).take i ++ ((L.map sheetD).drop (i + 1)).take (L.length - (i + 1)) ++ (L.map sheetD).drop (i + (L.length - (i + 1))) = (outL L i).map sheetD ++ (L.map sheetD).drop (L.length - 1) := by
  have hl : (L.map sheetD).length = L.length := List.length_map sheetD
  have ht : ((L.map sheetD).drop (i + 1)).take (L.length - (i + 1)) = (L.map sheetD).drop (i + 1) := List.take_of_length_le (by rw [List.length_drop, hl]; exact Nat.le_refl _)
  rw [outL_D, ht, show i + (L.length - (i + 1)) = L.length - 1 by omega]
theorem out_clear (h : i < L.length) {z : DV} : ((outL L i).map sheetD ++ (L.map sheetD).drop (L.length - 1)).take (L.length - 1) ++ List.replicate 1 z ++ ((outL L i).map sheetD ++ (L.map sheetD).drop (L.length - 1)).drop (L.length - 1 + 1) = (outL L i).map sheetD ++ [z] := by
  have hl : ((outL L i).map sheetD).length = L.length - 1 := by rw [List.length_map]; exact outL_len h
  rw [← hl, List.take_left, List.drop_append, List.drop_of_length_le (by omega)]
  have : ((L.map sheetD).drop ((outL L i).map sheetD).length).drop (((outL L i).map sheetD).length + 1 - ((outL L i).map sheetD).length) = [] := by
    apply List.drop_of_length_le
    rw [List.length_drop, List.length_map, hl]
    omega
  rw [this]
  simp
theorem out_app (h : i < L.length) : List.take (i - 0) (List.take 0 [] ++ List.take (i - 0) (List.drop 0 (L.map sheetD))) ++ List.take (L.length - (i + 1)) (List.drop (i + 1) (L.map sheetD)) = (outL L i).map sheetD := by
  have hl : (L.map sheetD).length = L.length := List.length_map sheetD
  have ht : ((L.map sheetD).drop (i + 1)).take (L.length - (i + 1)) = (L.map sheetD).drop (i + 1) := List.take_of_length_le (by rw [List.length_drop, hl]; exact Nat.le_refl _)
  rw [outL_D, ht, List.take_zero, List.nil_append, List.drop_zero, Nat.sub_zero, List.take_take, Nat.min_self]
theorem tsX_len {X : List SheetM} {n : Nat} {a : Int} (hX : outL L a.toNat = X) (hn : n = L.length - 1) (hr : 0 ≤ a ∧ a ≤ (L.length : Nat) - 1) : X.length = n := by
  subst hX; subst hn
  exact outL_len (by omega)
end
end Ink
