/- Arguments of laws: spots, folds, brushes and whole numbers that come from outside. No conditions. -/
import Derived.Test.YtdooejjnjfgnjaaInk19
set_option linter.unusedVariables false
set_option linter.unusedSimpArgs false
namespace Ink
open Go Go.ChangeShapes Go.WideShapes Go.RowKit
section
variable {H : Type} {enc : TypeId × Value → H} {P : Program} {w : World} {base : Nat} {sp : Nat → Bool} {hd : Bool}
theorem trod_len : ∀ {ts : List TypeId} {vs : List Value} {ds : List (DataW H)} {ps : List MemPlace}, DataW.TrodAll enc P w base sp hd ts vs ds ps → vs.length = ts.length ∧ ds.length = ts.length
  | [], [], [], _, _ => ⟨rfl, rfl⟩
  | _ :: ts, _ :: vs, _ :: ds, _, h => by
    obtain ⟨p, q, _, h1, _⟩ := h
    have := trod_len h1
    simp only [List.length_cons, this.1, this.2, and_self]
  | [], _ :: _, _, _, h => h.elim
  | [], [], _ :: _, _, h => h.elim
  | _ :: _, [], _, _, h => h.elim
  | _ :: _, _ :: _, [], _, h => h.elim
end
section
variable {α : Type} {l : List α} {A : Array α}
theorem list1 (h : l.length = 1) : ∃ a, l = [a] := by
  match l, h with | [a], _ => exact ⟨a, rfl⟩
theorem list2 (h : l.length = 2) : ∃ a b, l = [a, b] := by
  match l, h with | [a, b], _ => exact ⟨a, b, rfl⟩
theorem list3 (h : l.length = 3) : ∃ a b c, l = [a, b, c] := by
  match l, h with | [a, b, c], _ => exact ⟨a, b, c, rfl⟩
theorem list4 (h : l.length = 4) : ∃ a b c d, l = [a, b, c, d] := by
  match l, h with | [a, b, c, d], _ => exact ⟨a, b, c, d, rfl⟩
theorem list5 (h : l.length = 5) : ∃ a b c d e, l = [a, b, c, d, e] := by
  match l, h with | [a, b, c, d, e], _ => exact ⟨a, b, c, d, e, rfl⟩
theorem arr1 (h : A.toList.length = 1) : ∃ a, A = #[a] := by
  obtain ⟨a, h⟩ := list1 h
  exact ⟨a, Array.toList_inj.1 h⟩
theorem arr2 (h : A.toList.length = 2) : ∃ a b, A = #[a, b] := by
  obtain ⟨a, b, h⟩ := list2 h
  exact ⟨a, b, Array.toList_inj.1 h⟩
theorem arr3 (h : A.toList.length = 3) : ∃ a b c, A = #[a, b, c] := by
  obtain ⟨a, b, c, h⟩ := list3 h
  exact ⟨a, b, c, Array.toList_inj.1 h⟩
theorem arr4 (h : A.toList.length = 4) : ∃ a b c d, A = #[a, b, c, d] := by
  obtain ⟨a, b, c, d, h⟩ := list4 h
  exact ⟨a, b, c, d, Array.toList_inj.1 h⟩
theorem arr5 (h : A.toList.length = 5) : ∃ a b c d e, A = #[a, b, c, d, e] := by
  obtain ⟨a, b, c, d, e, h⟩ := list5 h
  exact ⟨a, b, c, d, e, Array.toList_inj.1 h⟩
end
def isRow : Option TypeDesc → Bool
  | some (.struct _) => true
  | some (.array _ _) => true
  | _ => false
theorem open_row {P : Program} {w : World} {r : Reach} {base : Nat} {t : TypeId} {v : Value} {L : List TypeDesc}
    (hu : isRow (P.underlying t) = true) (hc : P.cellsOf t = L.length) (hL0 : ((P.cellTypes P.depth t).map fun ts => ts.map P.underlying) = some (L.map some)) (hl : leafOk L = true)
    (hval : Value.okWide P w r base t v) : ∃ g b, v = .agg ((List.range L.length).map (mkLeaf g b L)).toArray ∧ ∀ (i : Nat) (k : IntKind), L[i]? = some (TypeDesc.int k) → (Lit.int k (g i)).wf = true := by
  rw [Option.map_eq_some_iff] at hL0
  obtain ⟨ts, hts, hL⟩ := hL0
  have hu' : (match P.underlying t with | some (.struct _) => true | some (.array _ _) => true | _ => false) = true := by
    unfold isRow at hu
    cases hq : P.underlying t with
    | none => rw [hq] at hu; cases hu
    | some u => rw [hq] at hu; cases u <;> first | rfl | cases hu
  obtain ⟨cs, rfl, h1, h2⟩ := open_cells hu' hts hc hL hl hval
  exact ⟨_, _, by rw [← h1], h2⟩
abbrev lSpot : List TypeDesc := [.int .i8, .int .i8]
abbrev lFold : List TypeDesc := [.int .i8, .bool, .int .i8]
abbrev lBrush : List TypeDesc := [.int .i16, .int .i16, .int .i16, .int .i16, .int .i8]
theorem wf8 {n : Int} (h : (Lit.int .i8 n).wf = true) : ok8 n := by
  simp [Lit.wf, IntKind.min, IntKind.max, IntKind.signed, IntKind.bits] at h; omega
abbrev ok16 (x : Int) : Prop := -32768 ≤ x ∧ x < 32768
theorem wf16 {n : Int} (h : (Lit.int .i16 n).wf = true) : ok16 n := by
  simp [Lit.wf, IntKind.min, IntKind.max, IntKind.signed, IntKind.bits] at h; omega
abbrev ok64 (x : Int) : Prop := -9223372036854775808 ≤ x ∧ x < 9223372036854775808
theorem wf64 {n : Int} (h : (Lit.int .i64 n).wf = true) : ok64 n := by
  simp [Lit.wf, IntKind.min, IntKind.max, IntKind.signed, IntKind.bits] at h; omega
structure FoldM.Ok (f : FoldM) : Prop where
  axis : -128 ≤ f.axis ∧ f.axis < 128
  press : -128 ≤ f.press ∧ f.press < 128
structure BrushM.Ok (b : BrushM) : Prop where
  dye : ∀ i, -32768 ≤ b.dye i ∧ b.dye i < 32768
  water : -32768 ≤ b.water ∧ b.water < 32768
  share : -128 ≤ b.share ∧ b.share < 128
theorem fold_Has {f : FoldM} : Has shFold (foldD f) := ⟨rfl, trivial, rfl, trivial⟩
theorem brush_Has {b : BrushM} : Has shBrush (brushD b) := ⟨fun _ _ => rfl, rfl, rfl, trivial⟩
section
variable {P : Program} {w : World} {r : Reach} {base : Nat} {t : TypeId} {v : Value}
theorem open_spot (hu : isRow (P.underlying t) = true) (hc : P.cellsOf t = 2) (hL0 : ((P.cellTypes P.depth t).map fun ts => ts.map P.underlying) = some (lSpot.map some))
    (hval : Value.okWide P w r base t v) : ∃ x y : Int, ok8 x ∧ ok8 y ∧ v = .agg (flat shSpot (spotD x y)).toArray := by
  obtain ⟨g, b, rfl, h⟩ := open_row (L := lSpot) hu hc hL0 rfl hval
  exact ⟨g 0, g 1, wf8 (h 0 .i8 rfl), wf8 (h 1 .i8 rfl), rfl⟩
theorem open_fold (hu : isRow (P.underlying t) = true) (hc : P.cellsOf t = 3) (hL0 : ((P.cellTypes P.depth t).map fun ts => ts.map P.underlying) = some (lFold.map some))
    (hval : Value.okWide P w r base t v) : ∃ f : FoldM, f.Ok ∧ v = .agg (flat shFold (foldD f)).toArray := by
  obtain ⟨g, b, rfl, h⟩ := open_row (L := lFold) hu hc hL0 rfl hval
  exact ⟨⟨g 0, b 1, g 2⟩, ⟨wf8 (h 0 .i8 rfl), wf8 (h 2 .i8 rfl)⟩, rfl⟩
theorem open_brush (hu : isRow (P.underlying t) = true) (hc : P.cellsOf t = 5) (hL0 : ((P.cellTypes P.depth t).map fun ts => ts.map P.underlying) = some (lBrush.map some))
    (hval : Value.okWide P w r base t v) : ∃ f : BrushM, f.Ok ∧ v = .agg (flat shBrush (brushD f)).toArray := by
  obtain ⟨g, b, rfl, h⟩ := open_row (L := lBrush) hu hc hL0 rfl hval
  have h0 := wf16 (h 0 .i16 rfl)
  have h1 := wf16 (h 1 .i16 rfl)
  have h2 := wf16 (h 2 .i16 rfl)
  refine ⟨⟨fun i => if i < 3 then g i else 0, g 3, g 4⟩, ⟨fun i => ?_, wf16 (h 3 .i16 rfl), wf8 (h 4 .i8 rfl)⟩, rfl⟩
  match i with
  | 0 => simpa using h0
  | 1 => simpa using h1
  | 2 => simpa using h2
  | i + 3 => show -32768 ≤ (if i + 3 < 3 then g (i + 3) else 0) ∧ (if i + 3 < 3 then g (i + 3) else 0) < 32768; rw [if_neg (by omega)]; omega
theorem open_i64 (hu : P.underlying t = some (.int .i64)) (hval : Value.okWide P w r base t v) : ∃ n : Int, ok64 n ∧ v = .int .i64 n := by
  obtain ⟨n, rfl⟩ := okWide_int hu hval
  refine ⟨n, wf64 ?_, rfl⟩
  simp only [Value.okWide, hu, Cell.okWide, Cell.ok, IntKind.has] at hval
  simpa [Lit.wf] using hval
end
end Ink
