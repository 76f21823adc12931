/- Contracts at any heap, out of contracts at a small one; the data of this program. No conditions. -/
import Derived.Test.YtdooejjnjfgnjaaInk13
set_option linter.unusedVariables false
set_option linter.unusedSimpArgs false
namespace Ink
open Go

/-! ### From a small heap to every heap -/
theorem ACall.frame0 {P : Program} {f : FuncId} {args : List AV} {v : AV} {N : Heap} (h : ACall P [] f args [] v N) (hs : inScopes 0 args) {H : Heap} :
    ACall P [] f (rens (kap [] 0 H.length) args) H (ren (kap [] 0 H.length) v) (H ++ N.map (renB (kap [] 0 H.length))) :=
  ACall.frame (Hm := []) (Hm' := []) h rfl [] rfl List.nodup_nil (fun i B hi => by simp at hi) hs (fun B hB => by simp at hB) (fun i hi => by simp at hi) (fun B hB => by simp at hB) rfl

theorem ACall.frame1 {P : Program} {W : List Nat} {f : FuncId} {args : List AV} {v : AV} {B B' : Blk} {N : Heap} (h : ACall P W f args [B] v (B' :: N)) {H : Heap} {b : Nat} (hb : H[b]? = some B) (hr : ∀ κ, renB κ B = B)
    (hr' : ∀ κ, renB κ B' = B') (hs : inScopes 1 args) (hsB : inScopeB 1 B) (hW : ∀ i ∈ W, i = 0) (hw : W = [] ∨ B.wr = true) (hl : B.lv = true) (hww : B'.wr = B.wr) :
    ACall P (W.map fun _ => b) f (rens (kap [b] 1 H.length) args) H (ren (kap [b] 1 H.length) v) (H.set b B' ++ N.map (renB (kap [b] 1 H.length))) := by
  have := ACall.frame (Hm := [B]) (Hm' := [B']) (N := N) h rfl (H := H) [b] rfl (by simp) (fun i C hi => by
    cases i with
    | zero => simp at hi; subst hi; simp [hr, hb]
    | succ i => simp at hi) hs (fun C hC => by simp at hC; subst hC; exact hsB) (fun i hi => by
    have := hW i hi
    subst this
    refine ⟨by simp, fun C hC => ?_⟩
    simp at hC
    subst hC
    rcases hw with rfl | hw
    · simp at hi
    · exact hw) (fun C hC => by simp at hC; subst hC; exact hl) (by simp [hww])
  have e1 : (W.map fun i => [b].getD i 0) = W.map fun _ => b := List.map_congr_left fun i hi => by rw [hW i hi]; rfl
  rw [e1] at this
  simp only [setAll, hr', List.length_cons, List.length_nil, Nat.zero_add] at this
  have e2 : kap [b] 1 H.length 0 = b := by simp [kap]
  rw [e2] at this
  exact this

theorem set_same {H : Heap} {b : Nat} {B : Blk} (h : H[b]? = some B) : H.set b B = H := by
  apply List.ext_getElem?
  intro j
  by_cases hj : b = j
  · subst hj; rw [List.getElem?_set_self (get_lt h), h]
  · rw [List.getElem?_set_ne hj]

/-- A call by its contract. -/
theorem acall_of {P : Program} {n : Nat} {W W' : List Nat} {f : FuncId} {args : List AV} {H H' : Heap} {v : AV} {K : AV → Heap → Prop} (h : ACall P W' f args H v H') (hW : ∀ i ∈ W', may n W i) (hk : K v H') : acall P n W f args H K :=
  ⟨W', v, H', h, fun i hi _ => hW i hi, hk⟩
theorem acall_pure {P : Program} {n : Nat} {W : List Nat} {f : FuncId} {args : List AV} {H H' : Heap} {v : AV} {K : AV → Heap → Prop} (h : ACall P [] f args H v H') (hk : K v H') : acall P n W f args H K :=
  ⟨[], v, H', h, fun i hi _ => by simp at hi, hk⟩
theorem acall_cast {P : Program} {n : Nat} {W W' : List Nat} {f : FuncId} {args args' : List AV} {H H' : Heap} {v : AV} {K : AV → Heap → Prop} (h : ACall P W' f args' H v H') (ha : args = args') (hW : ∀ i ∈ W', may n W i) (hk : K v H') : acall P n W f args H K := by
  subst ha; exact acall_of h hW hk

theorem gsplit_of {b : Bool} {F : Bool → Prop} (h1 : b = true → F true) (h2 : b = false → F false) : gsplit b F := ⟨h1, h2⟩
theorem gsplit_both {b : Bool} {F : Bool → Prop} (h : F b) : gsplit b F := by
  cases b
  · exact ⟨(fun e => Bool.noConfusion e), fun _ => h⟩
  · exact ⟨fun _ => h, (fun e => Bool.noConfusion e)⟩

/-! ### Arrays of whole numbers -/
def a1 (k : IntKind) (f : Nat → Int) : DV := .arr fun i => .int k (f i)
def a2 (k : IntKind) (f : Nat → Nat → Int) : DV := .arr fun i => a1 k (f i)
def a3 (k : IntKind) (f : Nat → Nat → Nat → Int) : DV := .arr fun i => a2 k (f i)
def u1 {α : Type} (f : Nat → α) (i : Nat) (v : α) : Nat → α := fun j => if j = i then v else f j
def u2 {α : Type} (f : Nat → Nat → α) (i j : Nat) (v : α) : Nat → Nat → α := u1 f i (u1 (f i) j v)
def u3 {α : Type} (f : Nat → Nat → Nat → α) (i j k : Nat) (v : α) : Nat → Nat → Nat → α := u1 f i (u2 (f i) j k v)
section
variable {k : IntKind} {f : Nat → Int} {g : Nat → Nat → Int} {h : Nat → Nat → Nat → Int} {i j l : Nat} {v : Int} {p : List Nat}
theorem a1_get : (a1 k f).get (i :: p) = (DV.int k (f i)).get p := by unfold a1; rw [DV.get]
theorem a2_get : (a2 k g).get (i :: p) = (a1 k (g i)).get p := by unfold a2; rw [DV.get]
theorem a3_get : (a3 k h).get (i :: p) = (a2 k (h i)).get p := by unfold a3; rw [DV.get]
theorem a1_set : (a1 k f).set [i] (.int k v) = a1 k (u1 f i v) := by
  unfold a1; rw [DV.set]; congr 1; funext j; unfold u1; split <;> simp [DV.set]
theorem a2_set1 : (a2 k g).set [i] (a1 k f) = a2 k (u1 g i f) := by
  unfold a2; rw [DV.set]; congr 1; funext j; unfold u1; split <;> simp [DV.set, a1]
theorem a2_set2 : (a2 k g).set [i, j] (.int k v) = a2 k (u2 g i j v) := by
  have := a1_set (k := k) (f := g i) (i := j) (v := v)
  unfold a2; rw [DV.set]; congr 1; funext m; unfold u2 u1; split
  · rw [this]; rfl
  · rfl
theorem a3_set1 : (a3 k h).set [i] (a2 k g) = a3 k (u1 h i g) := by
  unfold a3; rw [DV.set]; congr 1; funext j; unfold u1; split <;> simp [DV.set, a2]
theorem a3_set2 : (a3 k h).set [i, j] (a1 k f) = a3 k (u2 h i j f) := by
  have := a2_set1 (k := k) (g := h i) (i := j) (f := f)
  unfold a3; rw [DV.set]; congr 1; funext m; unfold u2 u1; split
  · rw [this]; rfl
  · rfl
theorem a3_set3 : (a3 k h).set [i, j, l] (.int k v) = a3 k (u3 h i j l v) := by
  have := a2_set2 (k := k) (g := h i) (i := j) (j := l) (v := v)
  unfold a3; rw [DV.set]; congr 1; funext m; unfold u3 u1; split
  · rw [this]
  · rfl
theorem a1_zero {m : Nat} : (Sh.arr m (.int k)).zero = a1 k fun _ => 0 := rfl
theorem a2_zero {m m' : Nat} : (Sh.arr m (.arr m' (.int k))).zero = a2 k fun _ _ => 0 := rfl
theorem a3_zero {m m' m'' : Nat} : (Sh.arr m (.arr m' (.arr m'' (.int k)))).zero = a3 k fun _ _ _ => 0 := rfl
theorem a1_eq {m : Nat} {f g : Nat → Int} : eqD (.arr m (.int k)) (a1 k f) (a1 k g) = (List.range m).all fun i => f i == g i := by unfold a1; simp only [eqD]
end

/-! ### Spots, sheets, folds, brushes, pictures -/
def shSpot : Sh := .cons (.int .i8) (.cons (.int .i8) .unit)
def shSheet : Sh := .cons (.int .i8) (.cons (.int .i8) (.cons (.arr 8 (.arr 8 (.int .i16))) (.cons (.arr 8 (.arr 8 (.arr 3 (.int .i16)))) (.cons (.arr 8 (.int .u8)) .unit))))
def shFold : Sh := .cons (.int .i8) (.cons .bool (.cons (.int .i8) .unit))
def shBrush : Sh := .cons (.arr 3 (.int .i16)) (.cons (.int .i16) (.cons (.int .i8) .unit))
def shPic : Sh := .cons (.int .i8) (.cons (.int .i8) (.cons (.arr 8 (.arr 8 (.int .u8))) .unit))

def spotD (x y : Int) : DV := .cons (.int .i8 x) (.cons (.int .i8 y) .unit)
structure SheetM where
  w : Int
  h : Int
  wet : Nat → Nat → Int
  dye : Nat → Nat → Nat → Int
  wax : Nat → Int
def sheetD (s : SheetM) : DV := .cons (.int .i8 s.w) (.cons (.int .i8 s.h) (.cons (a2 .i16 s.wet) (.cons (a3 .i16 s.dye) (.cons (a1 .u8 s.wax) .unit))))
structure FoldM where
  axis : Int
  down : Bool
  press : Int
def foldD (f : FoldM) : DV := .cons (.int .i8 f.axis) (.cons (.bool f.down) (.cons (.int .i8 f.press) .unit))
structure BrushM where
  dye : Nat → Int
  water : Int
  share : Int
def brushD (b : BrushM) : DV := .cons (a1 .i16 b.dye) (.cons (.int .i16 b.water) (.cons (.int .i8 b.share) .unit))

section
variable {x y v : Int} {s : SheetM} {f : FoldM} {b : BrushM} {p : List Nat} {i j l : Nat} {g : Nat → Nat → Int} {h : Nat → Nat → Nat → Int} {q : Nat → Int} {t : Bool}
theorem spot_fld0 : shSpot.fldS 0 = some (.int .i8) := rfl
theorem spot_fld1 : shSpot.fldS 1 = some (.int .i8) := rfl
theorem spot_fl0 : shSpot.fld 0 = some (.int .i8) := rfl
theorem spot_fl1 : shSpot.fld 1 = some (.int .i8) := rfl
theorem spot_of {u : DV} : ofD shSpot u = .agg shSpot u := rfl
theorem spot_agg : shSpot.agg = true := rfl
theorem spot_zero : shSpot.zero = spotD 0 0 := rfl
theorem spot_size : shSpot.size = 2 := rfl
theorem spot_get0 : (spotD x y).get (0 :: p) = (DV.int .i8 x).get p := by unfold spotD; rw [DV.get]
theorem spot_get1 : (spotD x y).get (1 :: p) = (DV.int .i8 y).get p := by unfold spotD; rw [DV.get, DV.get]
theorem spot_set0 : (spotD x y).set [0] (.int .i8 v) = spotD v y := by unfold spotD; rw [DV.set, s_dsn]
theorem spot_set1 : (spotD x y).set [1] (.int .i8 v) = spotD x v := by unfold spotD; rw [DV.set, DV.set, s_dsn]
theorem spot_Has : Has shSpot (spotD x y) := ⟨rfl, rfl, trivial⟩
theorem sheet_fld0 : shSheet.fldS 0 = some (.int .i8) := rfl
theorem sheet_fld1 : shSheet.fldS 1 = some (.int .i8) := rfl
theorem sheet_fld2 : shSheet.fldS 2 = some (.arr 8 (.arr 8 (.int .i16))) := rfl
theorem sheet_fld3 : shSheet.fldS 3 = some (.arr 8 (.arr 8 (.arr 3 (.int .i16)))) := rfl
theorem sheet_fld4 : shSheet.fldS 4 = some (.arr 8 (.int .u8)) := rfl
theorem sheet_fl0 : shSheet.fld 0 = some (.int .i8) := rfl
theorem sheet_fl1 : shSheet.fld 1 = some (.int .i8) := rfl
theorem sheet_of {u : DV} : ofD shSheet u = .agg shSheet u := rfl
theorem sheet_agg : shSheet.agg = true := rfl
def zeroSheet : SheetM := ⟨0, 0, fun _ _ => 0, fun _ _ _ => 0, fun _ => 0⟩
theorem sheet_zero : shSheet.zero = sheetD zeroSheet := rfl
theorem sheet_get0 : (sheetD s).get [0] = .int .i8 s.w := by simp only [sheetD, DV.get]
theorem sheet_get1 : (sheetD s).get [1] = .int .i8 s.h := by simp only [sheetD, DV.get]
theorem sheet_get2 : (sheetD s).get (2 :: p) = (a2 .i16 s.wet).get p := by simp only [sheetD, DV.get]
theorem sheet_get3 : (sheetD s).get (3 :: p) = (a3 .i16 s.dye).get p := by simp only [sheetD, DV.get]
theorem sheet_get4 : (sheetD s).get (4 :: p) = (a1 .u8 s.wax).get p := by simp only [sheetD, DV.get]
theorem sheet_set0 : (sheetD s).set [0] (.int .i8 v) = sheetD { s with w := v } := by simp only [sheetD, DV.set, s_dsn]
theorem sheet_set1 : (sheetD s).set [1] (.int .i8 v) = sheetD { s with h := v } := by simp only [sheetD, DV.set, s_dsn]
theorem sheet_set2 : (sheetD s).set [2] (a2 .i16 g) = sheetD { s with wet := g } := by simp only [sheetD, DV.set, s_dsn]
theorem sheet_set22 : (sheetD s).set [2, i, j] (.int .i16 v) = sheetD { s with wet := u2 s.wet i j v } := by
  have := a2_set2 (k := .i16) (g := s.wet) (i := i) (j := j) (v := v)
  simp only [sheetD, DV.set, this]
theorem sheet_set3 : (sheetD s).set [3] (a3 .i16 h) = sheetD { s with dye := h } := by simp only [sheetD, DV.set, s_dsn]
theorem sheet_set32 : (sheetD s).set [3, i, j] (a1 .i16 q) = sheetD { s with dye := u2 s.dye i j q } := by
  have := a3_set2 (k := .i16) (h := s.dye) (i := i) (j := j) (f := q)
  simp only [sheetD, DV.set, this]
theorem sheet_set33 : (sheetD s).set [3, i, j, l] (.int .i16 v) = sheetD { s with dye := u3 s.dye i j l v } := by
  have := a3_set3 (k := .i16) (h := s.dye) (i := i) (j := j) (l := l) (v := v)
  simp only [sheetD, DV.set, this]
theorem sheet_set4 : (sheetD s).set [4] (a1 .u8 q) = sheetD { s with wax := q } := by simp only [sheetD, DV.set, s_dsn]
theorem sheet_set41 : (sheetD s).set [4, i] (.int .u8 v) = sheetD { s with wax := u1 s.wax i v } := by
  have := a1_set (k := .u8) (f := s.wax) (i := i) (v := v)
  simp only [sheetD, DV.set, this]
theorem fold_fld0 : shFold.fldS 0 = some (.int .i8) := rfl
theorem fold_fld1 : shFold.fldS 1 = some .bool := rfl
theorem fold_fld2 : shFold.fldS 2 = some (.int .i8) := rfl
theorem fold_fl0 : shFold.fld 0 = some (.int .i8) := rfl
theorem fold_fl1 : shFold.fld 1 = some .bool := rfl
theorem fold_fl2 : shFold.fld 2 = some (.int .i8) := rfl
theorem fold_of {u : DV} : ofD shFold u = .agg shFold u := rfl
theorem fold_agg : shFold.agg = true := rfl
theorem fold_size : shFold.size = 3 := rfl
theorem fold_zero : shFold.zero = foldD ⟨0, false, 0⟩ := rfl
theorem fold_get0 : (foldD f).get [0] = .int .i8 f.axis := by simp only [foldD, DV.get]
theorem fold_get1 : (foldD f).get [1] = .bool f.down := by simp only [foldD, DV.get]
theorem fold_get2 : (foldD f).get [2] = .int .i8 f.press := by simp only [foldD, DV.get]
theorem fold_set0 : (foldD f).set [0] (.int .i8 v) = foldD { f with axis := v } := by simp only [foldD, DV.set, s_dsn]
theorem fold_set1 : (foldD f).set [1] (.bool t) = foldD { f with down := t } := by simp only [foldD, DV.set, s_dsn]
theorem fold_set2 : (foldD f).set [2] (.int .i8 v) = foldD { f with press := v } := by simp only [foldD, DV.set, s_dsn]
theorem brush_fld0 : shBrush.fldS 0 = some (.arr 3 (.int .i16)) := rfl
theorem brush_fld1 : shBrush.fldS 1 = some (.int .i16) := rfl
theorem brush_fld2 : shBrush.fldS 2 = some (.int .i8) := rfl
theorem brush_fl0 : shBrush.fld 0 = some (.arr 3 (.int .i16)) := rfl
theorem brush_fl1 : shBrush.fld 1 = some (.int .i16) := rfl
theorem brush_fl2 : shBrush.fld 2 = some (.int .i8) := rfl
theorem brush_of {u : DV} : ofD shBrush u = .agg shBrush u := rfl
theorem brush_agg : shBrush.agg = true := rfl
theorem brush_zero : shBrush.zero = brushD ⟨fun _ => 0, 0, 0⟩ := rfl
theorem brush_get0 : (brushD b).get (0 :: p) = (a1 .i16 b.dye).get p := by simp only [brushD, DV.get]
theorem brush_get1 : (brushD b).get [1] = .int .i16 b.water := by simp only [brushD, DV.get]
theorem brush_get2 : (brushD b).get [2] = .int .i8 b.share := by simp only [brushD, DV.get]
theorem brush_set0 : (brushD b).set [0] (a1 .i16 q) = brushD { b with dye := q } := by simp only [brushD, DV.set, s_dsn]
theorem brush_set01 : (brushD b).set [0, i] (.int .i16 v) = brushD { b with dye := u1 b.dye i v } := by
  have := a1_set (k := .i16) (f := b.dye) (i := i) (v := v)
  simp only [brushD, DV.set, this]
theorem brush_set1 : (brushD b).set [1] (.int .i16 v) = brushD { b with water := v } := by simp only [brushD, DV.set, s_dsn]
theorem brush_set2 : (brushD b).set [2] (.int .i8 v) = brushD { b with share := v } := by simp only [brushD, DV.set, s_dsn]
theorem s_binSpot {C : Ctx} {op : BinOp} {t : TypeId} {x y z w : Int} {L : AV → Prop} : abin C op t (.agg shSpot (spotD x y)) (.agg shSpot (spotD z w)) L =
    (C.ty t = some shSpot ∧ C.eq t = true ∧ (if op = .eql then L (.bool (x == z && y == w)) else op = .neq ∧ L (.bool (!(x == z && y == w))))) := by
  unfold shSpot spotD abin; simp [shSpot]
end
end Ink
