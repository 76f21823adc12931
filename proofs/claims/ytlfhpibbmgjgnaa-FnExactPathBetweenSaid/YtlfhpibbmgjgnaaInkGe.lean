/- Contracts of functions of the program, by the texts that it imports. No conditions. -/
import Derived.Test.YtlfhpibbmgjgnaaInkGd
import Derived.ProofKit
set_option linter.unusedVariables false
set_option linter.unusedSimpArgs false
/- Contracts at any heap, out of contracts at a small one; the data of this program. No conditions. -/
namespace Ink
open Go

/-! ### From a small heap to every heap -/
theorem ACall.frame0 {P : Program} {f : FuncId} {args : List AV} {v : AV} {N : Heap} (h : ACall P [] f args [] v N) (hs : inScopes 0 args) {H : Heap} :
    ACall P [] f (rens (kap [] 0 H.length) args) H (ren (kap [] 0 H.length) v) (H ++ N.map (renB (kap [] 0 H.length))) :=
  ACall.frame (Hm := []) (Hm' := []) h rfl [] rfl List.nodup_nil (fun i B hi => by simp at hi) hs (fun B hB => by simp at hB) (fun i hi => by simp at hi) (fun B hB => by simp at hB) rfl

theorem ACall.frame1 {P : Program} {W : List Nat} {f : FuncId} {args : List AV} {v : AV} {B B' : Blk} {N : Heap} (h : ACall P W f args [B] v (B' :: N)) {H : Heap} {b : Nat} (hb : H[b]? = some B) (hr : ∀ κ, renB κ B = B)
    (hr' : ∀ κ, renB κ B' = B') (hs : inScopes 1 args) (hsB : inScopeB 1 B) (hW : ∀ i ∈ W, i = 0) (hw : W = [] ∨ B.wr = true) (hl : B.lv = true) (hww : B'.wr = B.wr) :
    ACall P (W.map fun _ => b) f (rens (kap [b] 1 H.length) args) H (ren (kap [b] 1 H.length) v) (H.set b B' ++ N.map (renB (kap [b] 1 H.length))) := by
  have := ACall.frame (Hm := [B]) (Hm' := [B']) (N := N) h rfl (H := H) [b] rfl (by simp) (fun i C hi => by
    cases i with
    | zero => simp at hi; subst hi; simp [hr, hb]
    | succ i => simp at hi) hs (fun C hC => by simp at hC; subst hC; exact hsB) (fun i hi => by
    have := hW i hi
    subst this
    refine ⟨by simp, fun C hC => ?_⟩
    simp at hC
    subst hC
    rcases hw with rfl | hw
    · simp at hi
    · exact hw) (fun C hC => by simp at hC; subst hC; exact hl) (by simp [hww])
  have e1 : (W.map fun i => [b].getD i 0) = W.map fun _ => b := List.map_congr_left fun i hi => by rw [hW i hi]; rfl
  rw [e1] at this
  simp only [setAll, hr', List.length_cons, List.length_nil, Nat.zero_add] at this
  have e2 : kap [b] 1 H.length 0 = b := by simp [kap]
  rw [e2] at this
  exact this

theorem set_same {H : Heap} {b : Nat} {B : Blk} (h : H[b]? = some B) : H.set b B = H := by
  apply List.ext_getElem?
  intro j
  by_cases hj : b = j
  · subst hj; rw [List.getElem?_set_self (get_lt h), h]
  · rw [List.getElem?_set_ne hj]

/-- A call by its contract. -/
theorem acall_of {P : Program} {n : Nat} {W W' : List Nat} {f : FuncId} {args : List AV} {H H' : Heap} {v : AV} {K : AV → Heap → Prop} (h : ACall P W' f args H v H') (hW : ∀ i ∈ W', may n W i) (hk : K v H') : acall P n W f args H K :=
  ⟨W', v, H', h, fun i hi _ => hW i hi, hk⟩
theorem acall_pure {P : Program} {n : Nat} {W : List Nat} {f : FuncId} {args : List AV} {H H' : Heap} {v : AV} {K : AV → Heap → Prop} (h : ACall P [] f args H v H') (hk : K v H') : acall P n W f args H K :=
  ⟨[], v, H', h, fun i hi _ => by simp at hi, hk⟩
theorem acall_cast {P : Program} {n : Nat} {W W' : List Nat} {f : FuncId} {args args' : List AV} {H H' : Heap} {v : AV} {K : AV → Heap → Prop} (h : ACall P W' f args' H v H') (ha : args = args') (hW : ∀ i ∈ W', may n W i) (hk : K v H') : acall P n W f args H K := by
  subst ha; exact acall_of h hW hk

theorem gsplit_of {b : Bool} {F : Bool → Prop} (h1 : b = true → F true) (h2 : b = false → F false) : gsplit b F := ⟨h1, h2⟩
theorem gsplit_both {b : Bool} {F : Bool → Prop} (h : F b) : gsplit b F := by
  cases b
  · exact ⟨(fun e => Bool.noConfusion e), fun _ => h⟩
  · exact ⟨fun _ => h, (fun e => Bool.noConfusion e)⟩

/-! ### Arrays of whole numbers -/
def a1 (k : IntKind) (f : Nat → Int) : DV := .arr fun i => .int k (f i)
def a2 (k : IntKind) (f : Nat → Nat → Int) : DV := .arr fun i => a1 k (f i)
def a3 (k : IntKind) (f : Nat → Nat → Nat → Int) : DV := .arr fun i => a2 k (f i)
def u1 {α : Type} (f : Nat → α) (i : Nat) (v : α) : Nat → α := fun j => if j = i then v else f j
def u2 {α : Type} (f : Nat → Nat → α) (i j : Nat) (v : α) : Nat → Nat → α := u1 f i (u1 (f i) j v)
def u3 {α : Type} (f : Nat → Nat → Nat → α) (i j k : Nat) (v : α) : Nat → Nat → Nat → α := u1 f i (u2 (f i) j k v)
section
variable {k : IntKind} {f : Nat → Int} {g : Nat → Nat → Int} {h : Nat → Nat → Nat → Int} {i j l : Nat} {v : Int} {p : List Nat}
theorem z0g : (a1 k f).get (i :: p) = (DV.int k (f i)).get p := by unfold a1; rw [DV.get]
theorem z0i : (a2 k g).get (i :: p) = (a1 k (g i)).get p := by unfold a2; rw [DV.get]
theorem z0k : (a3 k h).get (i :: p) = (a2 k (h i)).get p := by unfold a3; rw [DV.get]
theorem z0b : (a1 k f).set [i] (.int k v) = a1 k (u1 f i v) := by
  unfold a1; rw [DV.set]; congr 1; funext j; unfold u1; split <;> simp [DV.set]
theorem z0d : (a2 k g).set [i] (a1 k f) = a2 k (u1 g i f) := by
  unfold a2; rw [DV.set]; congr 1; funext j; unfold u1; split <;> simp [DV.set, a1]
theorem z0c : (a2 k g).set [i, j] (.int k v) = a2 k (u2 g i j v) := by
  have := z0b (k := k) (f := g i) (i := j) (v := v)
  unfold a2; rw [DV.set]; congr 1; funext m; unfold u2 u1; split
  · rw [this]; rfl
  · rfl
theorem z0l : (a3 k h).set [i] (a2 k g) = a3 k (u1 h i g) := by
  unfold a3; rw [DV.set]; congr 1; funext j; unfold u1; split <;> simp [DV.set, a2]
theorem z0e : (a3 k h).set [i, j] (a1 k f) = a3 k (u2 h i j f) := by
  have := z0d (k := k) (g := h i) (i := j) (f := f)
  unfold a3; rw [DV.set]; congr 1; funext m; unfold u2 u1; split
  · rw [this]; rfl
  · rfl
theorem z0f : (a3 k h).set [i, j, l] (.int k v) = a3 k (u3 h i j l v) := by
  have := z0c (k := k) (g := h i) (i := j) (j := l) (v := v)
  unfold a3; rw [DV.set]; congr 1; funext m; unfold u3 u1; split
  · rw [this]
  · rfl
theorem z0h {m : Nat} : (Sh.arr m (.int k)).zero = a1 k fun _ => 0 := rfl
theorem z0j {m m' : Nat} : (Sh.arr m (.arr m' (.int k))).zero = a2 k fun _ _ => 0 := rfl
theorem z0m {m m' m'' : Nat} : (Sh.arr m (.arr m' (.arr m'' (.int k)))).zero = a3 k fun _ _ _ => 0 := rfl
theorem zhf {m : Nat} {f g : Nat → Int} : eqD (.arr m (.int k)) (a1 k f) (a1 k g) = (List.range m).all fun i => f i == g i := by unfold a1; simp only [eqD]
end

/-! ### Spots, sheets, folds, brushes, pictures -/
def shSpot : Sh := .cons (.int .i8) (.cons (.int .i8) .unit)
def shSheet : Sh := .cons (.int .i8) (.cons (.int .i8) (.cons (.arr 8 (.arr 8 (.int .i16))) (.cons (.arr 8 (.arr 8 (.arr 3 (.int .i16)))) (.cons (.arr 8 (.int .u8)) .unit))))
def shFold : Sh := .cons (.int .i8) (.cons .bool (.cons (.int .i8) .unit))
def shBrush : Sh := .cons (.arr 3 (.int .i16)) (.cons (.int .i16) (.cons (.int .i8) .unit))
def shPic : Sh := .cons (.int .i8) (.cons (.int .i8) (.cons (.arr 8 (.arr 8 (.int .u8))) .unit))

def spotD (x y : Int) : DV := .cons (.int .i8 x) (.cons (.int .i8 y) .unit)
structure SheetM where
  w : Int
  h : Int
  wet : Nat → Nat → Int
  dye : Nat → Nat → Nat → Int
  wax : Nat → Int
def sheetD (s : SheetM) : DV := .cons (.int .i8 s.w) (.cons (.int .i8 s.h) (.cons (a2 .i16 s.wet) (.cons (a3 .i16 s.dye) (.cons (a1 .u8 s.wax) .unit))))
structure FoldM where
  axis : Int
  down : Bool
  press : Int
def foldD (f : FoldM) : DV := .cons (.int .i8 f.axis) (.cons (.bool f.down) (.cons (.int .i8 f.press) .unit))
structure BrushM where
  dye : Nat → Int
  water : Int
  share : Int
def brushD (b : BrushM) : DV := .cons (a1 .i16 b.dye) (.cons (.int .i16 b.water) (.cons (.int .i8 b.share) .unit))

section
variable {x y v : Int} {s : SheetM} {f : FoldM} {b : BrushM} {p : List Nat} {i j l : Nat} {g : Nat → Nat → Int} {h : Nat → Nat → Nat → Int} {q : Nat → Int} {t : Bool}
theorem z65 : shSpot.fldS 0 = some (.int .i8) := rfl
theorem z66 : shSpot.fldS 1 = some (.int .i8) := rfl
theorem z63 : shSpot.fld 0 = some (.int .i8) := rfl
theorem z64 : shSpot.fld 1 = some (.int .i8) := rfl
theorem z69 {u : DV} : ofD shSpot u = .agg shSpot u := rfl
theorem z62 : shSpot.agg = true := rfl
theorem z6e : shSpot.zero = spotD 0 0 := rfl
theorem z6d : shSpot.size = 2 := rfl
theorem z67 : (spotD x y).get (0 :: p) = (DV.int .i8 x).get p := by unfold spotD; rw [DV.get]
theorem z68 : (spotD x y).get (1 :: p) = (DV.int .i8 y).get p := by unfold spotD; rw [DV.get, DV.get]
theorem z6b : (spotD x y).set [0] (.int .i8 v) = spotD v y := by unfold spotD; rw [DV.set, z09]
theorem z6c : (spotD x y).set [1] (.int .i8 v) = spotD x v := by unfold spotD; rw [DV.set, DV.set, z09]
theorem z0a : Has shSpot (spotD x y) := ⟨rfl, rfl, trivial⟩
theorem z5h : shSheet.fldS 0 = some (.int .i8) := rfl
theorem z5i : shSheet.fldS 1 = some (.int .i8) := rfl
theorem z5j : shSheet.fldS 2 = some (.arr 8 (.arr 8 (.int .i16))) := rfl
theorem z5k : shSheet.fldS 3 = some (.arr 8 (.arr 8 (.arr 3 (.int .i16)))) := rfl
theorem z5l : shSheet.fldS 4 = some (.arr 8 (.int .u8)) := rfl
theorem z5f : shSheet.fld 0 = some (.int .i8) := rfl
theorem z5g : shSheet.fld 1 = some (.int .i8) := rfl
theorem z5r {u : DV} : ofD shSheet u = .agg shSheet u := rfl
theorem z5e : shSheet.agg = true := rfl
def zeroSheet : SheetM := ⟨0, 0, fun _ _ => 0, fun _ _ _ => 0, fun _ => 0⟩
theorem z61 : shSheet.zero = sheetD zeroSheet := rfl
theorem z5m : (sheetD s).get [0] = .int .i8 s.w := by simp only [sheetD, DV.get]
theorem z5n : (sheetD s).get [1] = .int .i8 s.h := by simp only [sheetD, DV.get]
theorem z5o : (sheetD s).get (2 :: p) = (a2 .i16 s.wet).get p := by simp only [sheetD, DV.get]
theorem z5p : (sheetD s).get (3 :: p) = (a3 .i16 s.dye).get p := by simp only [sheetD, DV.get]
theorem z5q : (sheetD s).get (4 :: p) = (a1 .u8 s.wax).get p := by simp only [sheetD, DV.get]
theorem z5s : (sheetD s).set [0] (.int .i8 v) = sheetD { s with w := v } := by simp only [sheetD, DV.set, z09]
theorem z5t : (sheetD s).set [1] (.int .i8 v) = sheetD { s with h := v } := by simp only [sheetD, DV.set, z09]
theorem z5u : (sheetD s).set [2] (a2 .i16 g) = sheetD { s with wet := g } := by simp only [sheetD, DV.set, z09]
theorem z5v : (sheetD s).set [2, i, j] (.int .i16 v) = sheetD { s with wet := u2 s.wet i j v } := by
  have := z0c (k := .i16) (g := s.wet) (i := i) (j := j) (v := v)
  simp only [sheetD, DV.set, this]
theorem z5w : (sheetD s).set [3] (a3 .i16 h) = sheetD { s with dye := h } := by simp only [sheetD, DV.set, z09]
theorem z5x : (sheetD s).set [3, i, j] (a1 .i16 q) = sheetD { s with dye := u2 s.dye i j q } := by
  have := z0e (k := .i16) (h := s.dye) (i := i) (j := j) (f := q)
  simp only [sheetD, DV.set, this]
theorem z5y : (sheetD s).set [3, i, j, l] (.int .i16 v) = sheetD { s with dye := u3 s.dye i j l v } := by
  have := z0f (k := .i16) (h := s.dye) (i := i) (j := j) (l := l) (v := v)
  simp only [sheetD, DV.set, this]
theorem z5z : (sheetD s).set [4] (a1 .u8 q) = sheetD { s with wax := q } := by simp only [sheetD, DV.set, z09]
theorem z60 : (sheetD s).set [4, i] (.int .u8 v) = sheetD { s with wax := u1 s.wax i v } := by
  have := z0b (k := .u8) (f := s.wax) (i := i) (v := v)
  simp only [sheetD, DV.set, this]
theorem zmv : shFold.fldS 0 = some (.int .i8) := rfl
theorem zmw : shFold.fldS 1 = some .bool := rfl
theorem zmx : shFold.fldS 2 = some (.int .i8) := rfl
theorem zms : shFold.fld 0 = some (.int .i8) := rfl
theorem zmt : shFold.fld 1 = some .bool := rfl
theorem zmu : shFold.fld 2 = some (.int .i8) := rfl
theorem zn1 {u : DV} : ofD shFold u = .agg shFold u := rfl
theorem zmq : shFold.agg = true := rfl
theorem zn5 : shFold.size = 3 := rfl
theorem zn6 : shFold.zero = foldD ⟨0, false, 0⟩ := rfl
theorem zmy : (foldD f).get [0] = .int .i8 f.axis := by simp only [foldD, DV.get]
theorem zmz : (foldD f).get [1] = .bool f.down := by simp only [foldD, DV.get]
theorem zn0 : (foldD f).get [2] = .int .i8 f.press := by simp only [foldD, DV.get]
theorem zn2 : (foldD f).set [0] (.int .i8 v) = foldD { f with axis := v } := by simp only [foldD, DV.set, z09]
theorem zn3 : (foldD f).set [1] (.bool t) = foldD { f with down := t } := by simp only [foldD, DV.set, z09]
theorem zn4 : (foldD f).set [2] (.int .i8 v) = foldD { f with press := v } := by simp only [foldD, DV.set, z09]
theorem zhu : shBrush.fldS 0 = some (.arr 3 (.int .i16)) := rfl
theorem zhv : shBrush.fldS 1 = some (.int .i16) := rfl
theorem zhw : shBrush.fldS 2 = some (.int .i8) := rfl
theorem zhr : shBrush.fld 0 = some (.arr 3 (.int .i16)) := rfl
theorem zhs : shBrush.fld 1 = some (.int .i16) := rfl
theorem zht : shBrush.fld 2 = some (.int .i8) := rfl
theorem zi0 {u : DV} : ofD shBrush u = .agg shBrush u := rfl
theorem zhq : shBrush.agg = true := rfl
theorem zi5 : shBrush.zero = brushD ⟨fun _ => 0, 0, 0⟩ := rfl
theorem zhx : (brushD b).get (0 :: p) = (a1 .i16 b.dye).get p := by simp only [brushD, DV.get]
theorem zhy : (brushD b).get [1] = .int .i16 b.water := by simp only [brushD, DV.get]
theorem zhz : (brushD b).get [2] = .int .i8 b.share := by simp only [brushD, DV.get]
theorem zi1 : (brushD b).set [0] (a1 .i16 q) = brushD { b with dye := q } := by simp only [brushD, DV.set, z09]
theorem zi2 : (brushD b).set [0, i] (.int .i16 v) = brushD { b with dye := u1 b.dye i v } := by
  have := z0b (k := .i16) (f := b.dye) (i := i) (v := v)
  simp only [brushD, DV.set, this]
theorem zi3 : (brushD b).set [1] (.int .i16 v) = brushD { b with water := v } := by simp only [brushD, DV.set, z09]
theorem zi4 : (brushD b).set [2] (.int .i8 v) = brushD { b with share := v } := by simp only [brushD, DV.set, z09]
theorem z6a {x y : Int} {k : Int → Int → Prop} : onTwo (.agg shSpot (spotD x y)) k = k x y := by unfold onTwo shSpot spotD; rfl
theorem z1m {C : Ctx} {op : BinOp} {t : TypeId} {x y z w : Int} {L : AV → Prop} : abin C op t (.agg shSpot (spotD x y)) (.agg shSpot (spotD z w)) L =
    (C.ty t = some shSpot ∧ C.eq t = true ∧ (if op = .eql then L (.bool (x == z && y == w)) else op = .neq ∧ L (.bool (!(x == z && y == w))))) := by
  unfold shSpot spotD abin; simp [shSpot]
end
end Ink
/- Ends of functions whose result holds no pointer; lists of spots. No conditions. -/
namespace Ink
open Go

mutual
def plain : AV → Bool
  | .int _ _ => true
  | .bool _ => true
  | .str _ => true
  | .agg _ _ => true
  | .tup l => plains l
  | .nils => true
  | .wz => true
  | .nilp => true
  | _ => false
def plains : List AV → Bool
  | [] => true
  | a :: l => plain a && plains l
end
mutual
theorem plain_ren {σ : Nat → Nat} {m : Nat} : ∀ {v : AV}, plain v = true → ren σ v = v ∧ inScope m v
  | .int _ _, _ => ⟨by unfold ren; rfl, trivial⟩
  | .bool _, _ => ⟨by unfold ren; rfl, trivial⟩
  | .str _, _ => ⟨by unfold ren; rfl, trivial⟩
  | .agg _ _, _ => ⟨by unfold ren; rfl, trivial⟩
  | .nils, _ => ⟨by unfold ren; rfl, trivial⟩
  | .wz, _ => ⟨by unfold ren; rfl, trivial⟩
  | .nilp, _ => ⟨by unfold ren; rfl, trivial⟩
  | .tup l, h => by
    have := plains_ren (σ := σ) (m := m) (l := l) (by unfold plain at h; exact h)
    exact ⟨by unfold ren; rw [this.1], this.2⟩
theorem plains_ren {σ : Nat → Nat} {m : Nat} : ∀ {l : List AV}, plains l = true → rens σ l = l ∧ inScopes m l
  | [], _ => ⟨by unfold rens; rfl, trivial⟩
  | a :: l, h => by
    simp only [plains, Bool.and_eq_true] at h
    have h1 := plain_ren (σ := σ) (m := m) h.1
    have h2 := plains_ren (σ := σ) (m := m) h.2
    exact ⟨by unfold rens; rw [h1.1, h2.1], h1.2, h2.2⟩
end

def noRef : Blk → Bool
  | .ref _ => false
  | .dead _ => false
  | _ => true
def noRefs (A : Heap) : Bool := A.all noRef

theorem headW_of {A : Heap} {n : Nat} (h : noRefs A = true) : headW n A := fun i x hi => by
  have := List.all_eq_true.1 h _ (List.mem_of_getElem? hi)
  simp [noRef] at this

/-- The result holds no pointer: the call's own blocks are forgotten. -/
theorem fin_plain {A L : Heap} {v v' : AV} {n : Nat} {H : Heap} (hH : H = A ++ L) (hn : A.length = n) (hA : noRefs A = true) (hp : plain v' = true) (hv : v = v') : fin n v H v' A := by
  subst hH; subst hn; subst hv
  obtain ⟨h1, h2⟩ := plain_ren (σ := sg A.length []) (m := A.length) hp
  exact fin_drop (headW_of hA) h2 h1
theorem fin_0 {L : Heap} {v v' : AV} (hp : plain v' = true) (hv : v = v') : fin 0 v L v' [] := fin_plain (A := []) rfl rfl rfl hp hv
theorem fin_1 {B : Blk} {L : Heap} {v v' : AV} (hB : noRef B = true) (hp : plain v' = true) (hv : v = v') : fin 1 v (B :: L) v' [B] := fin_plain (A := [B]) rfl rfl (by simp [noRefs, hB]) hp hv
theorem fin_2 {B C : Blk} {L : Heap} {v v' : AV} (hB : noRef B = true) (hC : noRef C = true) (hp : plain v' = true) (hv : v = v') : fin 2 v (B :: C :: L) v' [B, C] := fin_plain (A := [B, C]) rfl rfl (by simp [noRefs, hB, hC]) hp hv

/-- What is kept: blocks of the call's own, by their places. -/
theorem weak_of {n : Nat} {E E' : Env} {H : Heap} (A L : Heap) (τ : List Nat) (L' : Heap) (hH : H = A ++ L) (hn : A.length = n) (hA : noRefs A = true) (hnd : τ.Nodup)
    (hT : tailW (sg n τ) (A ++ L').length L τ L') (hE : envW (sg n τ) (A ++ L').length E E') : WeakS n E H E' (A ++ L') :=
  ⟨sg n τ, ⟨A, L, L', τ, hH, hn, rfl, hnd, headW_of hA, rfl, hT⟩, hE⟩
theorem fin_of {n : Nat} {v v' : AV} {H : Heap} (A L : Heap) (τ : List Nat) (L' : Heap) (hH : H = A ++ L) (hn : A.length = n) (hA : noRefs A = true) (hnd : τ.Nodup)
    (hT : tailW (sg n τ) (A ++ L').length L τ L') (hs : inScope (A ++ L').length v') (hv : v = ren (sg n τ) v') : fin n v H v' (A ++ L') :=
  ⟨sg n τ, ⟨A, L, L', τ, hH, hn, rfl, hnd, headW_of hA, rfl, hT⟩, hs, hv⟩

section
variable {n m : Nat} {L : Heap} {σ : Nat → Nat} {E : Env}
theorem zbk : tailW σ m L [] [] = True := by unfold tailW; rfl
theorem zbj {k τ B L'} : tailW σ m L (k :: τ) (B :: L') = (onSome L[k]? (BlkW σ m B) ∧ tailW σ m L τ L') := by rw [tailW]
theorem zai {s v B} : BlkW σ m (.data s v) B = (B = .data s v) := by unfold BlkW; rfl
theorem zbe {wr e l wr' e' l'} : BlkW σ m (.seq wr e l) (.seq wr' e' l') = (e' = e ∧ l <+: l' ∧ (wr = true → wr' = true)) := by
  simp only [BlkW, eq_iff_iff]
  constructor
  · rintro ⟨a, b, h, h2, h3⟩; cases h; exact ⟨rfl, h2, h3⟩
  · rintro ⟨rfl, h2, h3⟩; exact ⟨_, _, rfl, h2, h3⟩
theorem zav {x B} : BlkW σ m (.ref x) B = (inScope m x ∧ B = .ref (ren σ x)) := by unfold BlkW; rfl
theorem zak : envW σ m E [] = True := by unfold envW; rfl
theorem zaj {t v r} : envW σ m E ((t, v) :: r) = ((inScope m v ∧ look E t = ren σ v) ∧ envW σ m E r) := by rw [envW]
theorem zb8 {b p τ} : inScope m (.ptr b p τ) = (b < m) := by unfold inScope; rfl
theorem zb9 {b} : inScope m (.rptr b) = (b < m) := by unfold inScope; rfl
theorem zbb {b lo l c} : inScope m (.slk b lo l c) = (b < m) := by unfold inScope; rfl
theorem zba {b lo l} : inScope m (.slc b lo l) = (b < m) := by unfold inScope; rfl
theorem zb3 {k i} : inScope m (.int k i) = True := by unfold inScope; rfl
theorem zb0 {b} : inScope m (.bool b) = True := by unfold inScope; rfl
theorem zbc {b} : inScope m (.str b) = True := by unfold inScope; rfl
theorem zaz {τ v} : inScope m (.agg τ v) = True := by unfold inScope; rfl
theorem zb4 : inScope m .junk = True := by unfold inScope; rfl
theorem zb7 : inScope m .nils = True := by unfold inScope; rfl
theorem zb2 {f c d} : inScope m (.fn f c d) = (inScopes m c ∧ inScopes m d) := by rw [inScope]
theorem zbd {l} : inScope m (.tup l) = inScopes m l := by rw [inScope]
theorem zb6 : inScopes m [] = True := by unfold inScopes; rfl
theorem zb1 {a l} : inScopes m (a :: l) = (inScope m a ∧ inScopes m l) := by rw [inScopes]
theorem zb5 {b} : inScope m (.mp b) = (b < m) := by unfold inScope; rfl
theorem zap {b} : ren σ (.mp b) = .mp (σ b) := by unfold ren; rfl
theorem zaq {l B} : BlkW σ m (.mpb l) B = (B = .mpb l) := by unfold BlkW; rfl
theorem zas {b p τ} : ren σ (.ptr b p τ) = .ptr (σ b) p τ := by unfold ren; rfl
theorem zax {b} : ren σ (.rptr b) = .rptr (σ b) := by unfold ren; rfl
theorem zbh {b lo l c} : ren σ (.slk b lo l c) = .slk (σ b) lo l c := by unfold ren; rfl
theorem zbg {b lo l} : ren σ (.slc b lo l) = .slc (σ b) lo l := by unfold ren; rfl
theorem zam {k i} : ren σ (.int k i) = .int k i := by unfold ren; rfl
theorem zah {b} : ren σ (.bool b) = .bool b := by unfold ren; rfl
theorem zbi {b} : ren σ (.str b) = .str b := by unfold ren; rfl
theorem zag {τ v} : ren σ (.agg τ v) = .agg τ v := by unfold ren; rfl
theorem zar : ren σ .nils = .nils := by unfold ren; rfl
theorem zan : ren σ .junk = .junk := by unfold ren; rfl
theorem zal {f c d} : ren σ (.fn f c d) = .fn f (rens σ c) (rens σ d) := by rw [ren]
theorem zbl {l} : ren σ (.tup l) = .tup (rens σ l) := by rw [ren]
theorem zaw : rens σ [] = [] := by unfold rens; rfl
theorem zat {a l} : rens σ (a :: l) = ren σ a :: rens σ l := by rw [rens]
theorem zbf {τ i} : sg n τ i = if i < n then i else n + τ.getD (i - n) 0 := rfl
theorem zao {κ i} : kap κ m n i = if i < m then κ.getD i 0 else n + (i - m) := rfl
theorem zau {s v} : renB σ (.data s v) = .data s v := rfl
theorem zay {wr e l} : renB σ (.seq wr e l) = .seq wr e l := rfl
end
end Ink
/- The loop rule as a lemma, and small laws about whole numbers and arrays. No conditions. -/
namespace Ink
open Go
theorem aloop {C : Ctx} {n : Nat} {W : List Nat} {c : Code} {E : Env} {H : Heap} {Q : AEx → Env → Heap → Prop} {ι : Type} (p : ι → Prop) (μ : ι → Nat) (EE : ι → Env) (HH : ι → Heap) (i0 : ι) (h0 : p i0)
    (hw : WeakS n E H (EE i0) (HH i0))
    (hr : ∀ i, p i → force (EE i) fun E => force (HH i) fun H => acode C n W c E H (thenQ (fun E' H' => ∃ j, p j ∧ μ j < μ i ∧ WeakS n E' H' (EE j) (HH j)) Q)) : acode C n W (.loop c) E H Q := by
  rw [acode]
  exact ⟨ι, p, μ, EE, HH, ⟨i0, h0, hw⟩, hr⟩

/-- What lies below a place, and 'd' from there on. -/
def upTo {α : Type} (f : Nat → α) (d : α) (n : Nat) : Nat → α := fun j => if j < n then f j else d
theorem upTo_zero {α : Type} {f : Nat → α} {d : α} : upTo f d 0 = fun _ => d := by funext j; simp [upTo]
theorem upTo_succ {α : Type} {f : Nat → α} {d : α} {n : Nat} : u1 (upTo f d n) n (f n) = upTo f d (n + 1) := by
  funext j; unfold u1 upTo
  by_cases h : j = n
  · subst h; simp
  · rw [if_neg h]
    by_cases h2 : j < n
    · rw [if_pos h2, if_pos (by omega)]
    · rw [if_neg h2, if_neg (by omega)]
theorem wrap_i64 {a : Int} (h : -9223372036854775808 ≤ a) (h' : a < 9223372036854775808) : IntKind.i64.wrap a = a := by
  simp only [IntKind.wrap, IntKind.signed, IntKind.bits]; simp; omega
/-- A call by its contract; what it yields is brought into shape first. -/
theorem acall_go {P : Program} {n : Nat} {W : List Nat} {f : FuncId} {args : List AV} {H H' : Heap} {v : AV} {K : AV → Heap → Prop} (h : ACall P [] f args H v H') (hk : force v fun v => force H' fun H' => K v H') : acall P n W f args H K :=
  acall_pure h hk
theorem qcall_go {P : Program} {f : FuncId} {args : List AV} {H : Heap} {v : AV} {K : AV → Prop} (h : ∀ N, ACall P [] f args (H ++ N) v (H ++ N)) (hk : force v fun v => K v) : qcall P f args H K := ⟨v, h, hk⟩
theorem qcall_pure {P : Program} {f : FuncId} {args : List AV} {H : Heap} {v : AV} {K : AV → Prop} (h : ∀ N, ACall P [] f args (H ++ N) v (H ++ N)) (hk : K v) : qcall P f args H K := ⟨v, h, hk⟩
/-- A function of plain values at any heap. -/
theorem ACall.at0 {P : Program} {f : FuncId} {args : List AV} {v : AV} (h : ACall P [] f args [] v []) (ha : plains args = true) (hv : plain v = true) (H : Heap) : ACall P [] f args H v H := by
  have h1 := plains_ren (σ := kap [] 0 H.length) (m := 0) ha
  have h2 := plain_ren (σ := kap [] 0 H.length) (m := 0) hv
  have := ACall.frame0 h h1.2 (H := H)
  rwa [h1.1, h2.1, List.map_nil, List.append_nil] at this
/-- A reader of one block that holds no pointer, at any heap. -/
theorem ACall.at1 {P : Program} {f : FuncId} {args : List AV} {v : AV} {B : Blk} (h : ACall P [] f args [B] v [B]) (hB : noRef B = true) {H : Heap} {b : Nat} (hb : H[b]? = some B) {args' : List AV} (hs : inScopes 1 args) (ha : rens (kap [b] 1 H.length) args = args') (hv : plain v = true) :
    ACall P [] f args' H v H := by
  subst ha
  have hr : ∀ κ, renB κ B = B := fun κ => by cases B <;> first | rfl | simp [noRef] at hB
  have hl : B.lv = true := by cases B <;> first | rfl | simp [noRef] at hB
  have hsc : inScopeB 1 B := by cases B <;> first | trivial | simp [noRef] at hB
  have h2 := plain_ren (σ := kap [b] 1 H.length) (m := 0) hv
  have := ACall.frame1 h hb hr hr hs hsc (fun i hi => by simp at hi) (Or.inl rfl) hl rfl
  rw [h2.1] at this
  simpa [set_same hb] using this
theorem z3i {n b : Nat} {W : List Nat} : may n W b = (n ≤ b ∨ b ∈ W) := by unfold may; rfl
theorem weak_k {n : Nat} {E E' : Env} {H H' : Heap} (τ : List Nat) (hn : n ≤ H.length) (hA : H'.take n = H.take n) (hr : noRefs (H.take n) = true) (hnd : τ.Nodup)
    (hT : tailW (sg n τ) H'.length (H.drop n) τ (H'.drop n)) (hE : envW (sg n τ) H'.length E E') : WeakS n E H E' H' := by
  have e : H.take n ++ H'.drop n = H' := by rw [← hA, List.take_append_drop]
  have := weak_of (n := n) (E := E) (E' := E') (H := H) (H.take n) (H.drop n) τ (H'.drop n) (List.take_append_drop n H).symm (by simp; omega) hr hnd (by rw [e]; exact hT) (by rw [e]; exact hE)
  rwa [e] at this
theorem fin_k {n : Nat} {v v' : AV} {H H' : Heap} (τ : List Nat) (hn : n ≤ H.length) (hA : H'.take n = H.take n) (hr : noRefs (H.take n) = true) (hnd : τ.Nodup)
    (hT : tailW (sg n τ) H'.length (H.drop n) τ (H'.drop n)) (hs : inScope H'.length v') (hv : v = ren (sg n τ) v') : fin n v H v' H' := by
  have e : H.take n ++ H'.drop n = H' := by rw [← hA, List.take_append_drop]
  have := fin_of (n := n) (v := v) (v' := v') (H := H) (H.take n) (H.drop n) τ (H'.drop n) (List.take_append_drop n H).symm (by simp; omega) hr hnd (by rw [e]; exact hT) (by rw [e]; exact hs) hv
  rwa [e] at this
theorem wrap_i16 {a : Int} (h : -32768 ≤ a) (h' : a < 32768) : IntKind.i16.wrap a = a := by
  simp only [IntKind.wrap, IntKind.signed, IntKind.bits]; simp; omega
theorem wrap_i8 {a : Int} (h : -128 ≤ a) (h' : a < 128) : IntKind.i8.wrap a = a := by
  simp only [IntKind.wrap, IntKind.signed, IntKind.bits]; simp; omega
theorem wrap_u8 {a : Int} (h : 0 ≤ a) (h' : a < 256) : IntKind.u8.wrap a = a := by
  simp only [IntKind.wrap, IntKind.signed, IntKind.bits]; simp; omega
theorem wrap_u64 {a : Int} (h : 0 ≤ a) (h' : a < 18446744073709551616) : IntKind.u64.wrap a = a := by
  simp only [IntKind.wrap, IntKind.signed, IntKind.bits]; simp; omega
theorem cast_succ {i : Nat} : ((i + 1 : Nat) : Int) = (i : Int) + 1 := by omega
theorem cast_zero : ((0 : Nat) : Int) = 0 := rfl
end Ink
/- What the program means: sheets and cells. No conditions. -/
namespace Ink
open Go
def n8 (f : Nat → Int) : Nat → Int := upTo f 0 8
def n3 (f : Nat → Int) : Nat → Int := upTo f 0 3
def n88 (f : Nat → Nat → Int) : Nat → Nat → Int := upTo (fun i => n8 (f i)) (fun _ => 0) 8
def n83 (f : Nat → Nat → Int) : Nat → Nat → Int := upTo (fun i => n3 (f i)) (fun _ => 0) 8
def n883 (f : Nat → Nat → Nat → Int) : Nat → Nat → Nat → Int := upTo (fun i => n83 (f i)) (fun _ _ => 0) 8
def nS (s : SheetM) : SheetM := ⟨s.w, s.h, n88 s.wet, n883 s.dye, n8 s.wax⟩
structure SheetM.Ok (s : SheetM) : Prop where
  w : -128 ≤ s.w ∧ s.w < 128
  h : -128 ≤ s.h ∧ s.h < 128
  wet : ∀ i j, -32768 ≤ s.wet i j ∧ s.wet i j < 32768
  dye : ∀ i j k, -32768 ≤ s.dye i j k ∧ s.dye i j k < 32768
  wax : ∀ i, 0 ≤ s.wax i ∧ s.wax i < 256
abbrev ok8 (x : Int) : Prop := -128 ≤ x ∧ x < 128
abbrev in8 (x y : Int) : Prop := (0 ≤ x ∧ x < 8) ∧ 0 ≤ y ∧ y < 8
theorem in8_of {a b : Nat} (ha : a < 8) (hb : b < 8) : in8 (a : Int) (b : Int) := by omega
def hasP (s : SheetM) (x y : Int) : Prop := 0 ≤ x ∧ x < s.w ∧ 0 ≤ y ∧ y < s.h
instance {s : SheetM} {x y : Int} : Decidable (hasP s x y) := by unfold hasP; infer_instance
def waxP (s : SheetM) (x y : Int) : Prop := IntKind.u8.wrap (BitVec.ofInt 8 ((s.wax y.toNat).fdiv (2 ^ (min x.toNat 8))) &&& BitVec.ofInt 8 1).toNat = 1
instance {s : SheetM} {x y : Int} : Decidable (waxP s x y) := by unfold waxP; infer_instance
def wetM (s : SheetM) (x y : Int) : Int := s.wet y.toNat x.toNat
def darkM (s : SheetM) (x y : Int) : Int := s.dye y.toNat x.toNat 0 + s.dye y.toNat x.toNat 1 + s.dye y.toNat x.toNat 2
/-- The cells of a sheet of some sides, ordered, up to a place in a row. -/
def rowD (y x : Nat) : List DV := (List.range x).map fun (x : Nat) => spotD x y
def cellsTo (w y x : Nat) : List DV := ((List.range y).flatMap fun y => rowD y w) ++ rowD y x
def cellsD (w h : Nat) : List DV := cellsTo w h 0
theorem cellsTo_succ {w y x : Nat} : cellsTo w y (x + 1) = cellsTo w y x ++ [spotD x y] := by
  unfold cellsTo rowD; rw [List.range_succ, List.map_append, List.append_assoc]; rfl
theorem cellsTo_row {w y : Nat} : cellsTo w y w = cellsTo w (y + 1) 0 := by
  unfold cellsTo; rw [List.range_succ, List.flatMap_append]; simp [rowD]
theorem cellsTo_zero {w : Nat} : cellsTo w 0 0 = [] := rfl
theorem cellsTo_length {w y x : Nat} : (cellsTo w y x).length = w * y + x := by
  induction y generalizing x with
  | zero => simp [cellsTo, rowD]
  | succ y ih =>
    have : (cellsTo w (y + 1) x).length = (cellsTo w (y + 1) 0).length + x := by
      unfold cellsTo rowD; simp
    rw [this, ← cellsTo_row, ih, Nat.mul_succ]
theorem cellsTo_le {w y x : Nat} (hw : w ≤ 8) (hy : y ≤ 8) (hx : x ≤ 8) : (cellsTo w y x).length ≤ 72 := by
  rw [cellsTo_length]
  have : w * y ≤ 8 * 8 := Nat.mul_le_mul hw hy
  omega
def cellP (s : SheetM) (x y : Int) : Prop := (0 ≤ wetM s x y ∧ wetM s x y ≤ 200) ∧ (∀ k < 3, 0 ≤ s.dye y.toNat x.toNat k ∧ s.dye y.toNat x.toNat k ≤ 1000) ∧
  ((hasP s x y ∧ ¬ waxP s x y) ∨ (wetM s x y = 0 ∧ s.dye y.toNat x.toNat 0 = 0 ∧ s.dye y.toNat x.toNat 1 = 0 ∧ s.dye y.toNat x.toNat 2 = 0))
noncomputable instance {s : SheetM} {x y : Int} : Decidable (cellP s x y) := Classical.propDecidable _
def cellOk (s : SheetM) (x y : Int) : Prop := (waxP s x y → hasP s x y) ∧ cellP s x y
theorem cell_all {s : SheetM} {x y : Int} (h : cellP s x y) : (0 ≤ wetM s x y ∧ wetM s x y ≤ 200) ∧ (0 ≤ s.dye y.toNat x.toNat 0 ∧ s.dye y.toNat x.toNat 0 ≤ 1000) ∧ (0 ≤ s.dye y.toNat x.toNat 1 ∧ s.dye y.toNat x.toNat 1 ≤ 1000) ∧ (0 ≤ s.dye y.toNat x.toNat 2 ∧ s.dye y.toNat x.toNat 2 ≤ 1000) :=
  ⟨h.1, h.2.1 0 (by omega), h.2.1 1 (by omega), h.2.1 2 (by omega)⟩
def validS (s : SheetM) : Prop := (1 ≤ s.w ∧ s.w ≤ 8) ∧ (1 ≤ s.h ∧ s.h ≤ 8) ∧ ∀ y < 8, ∀ x < 8, cellOk s ((x : Nat) : Int) ((y : Nat) : Int)
noncomputable instance {s : SheetM} : Decidable (validS s) := Classical.propDecidable _
noncomputable instance {s : SheetM} {x y : Int} : Decidable (cellOk s x y) := Classical.propDecidable _
theorem z10 {m : Nat} {e : Sh} : (Sh.arr m e).agg = true := rfl
theorem z0z {k : IntKind} {f g : Nat → Int} : eqD (.arr 3 (.int k)) (a1 k f) (a1 k g) = decide (f 0 = g 0 ∧ f 1 = g 1 ∧ f 2 = g 2) := by
  rw [zhf, Bool.eq_iff_iff]
  simp [List.range_succ, and_assoc]
/-- The sum of the first numbers. -/
def sumTo (f : Nat → Int) : Nat → Int
  | 0 => 0
  | n + 1 => sumTo f n + f n
theorem sumTo_zero {f : Nat → Int} : sumTo f 0 = 0 := rfl
theorem sumTo_succ {f : Nat → Int} {n : Nat} : sumTo f (n + 1) = sumTo f n + f n := rfl
theorem sumTo_3 {f : Nat → Int} : sumTo f 3 = f 0 + f 1 + f 2 := by simp [sumTo]
theorem sumTo_le {f : Nat → Int} {n : Nat} {a b : Int} (h : ∀ k < n, a ≤ f k ∧ f k ≤ b) : a * n ≤ sumTo f n ∧ sumTo f n ≤ b * n := by
  induction n with
  | zero => simp [sumTo]
  | succ n ih =>
    obtain ⟨h1, h2⟩ := ih fun k hk => h k (by omega)
    obtain ⟨h3, h4⟩ := h n (by omega)
    simp only [sumTo, cast_succ, Int.mul_add, Int.mul_one]
    omega
abbrev small (s : SheetM) : Prop := (0 ≤ s.w ∧ s.w ≤ 8) ∧ 0 ≤ s.h ∧ s.h ≤ 8
theorem row_get {y w i : Nat} (h : i < w) : (rowD y w)[i]? = some (spotD i y) := by
  unfold rowD; simp [h]
theorem cells_getTo {w y i j : Nat} (hj : j < y) (hi : i < w) : (cellsTo w y 0)[w * j + i]? = some (spotD i j) := by
  induction y with
  | zero => omega
  | succ y ih =>
    rw [← cellsTo_row]
    have hl : (cellsTo w y 0).length = w * y := by rw [cellsTo_length]; omega
    have he : cellsTo w y w = cellsTo w y 0 ++ rowD y w := by unfold cellsTo; simp [rowD]
    rw [he]
    by_cases hjy : j < y
    · have : w * j + w ≤ w * y := by rw [← Nat.mul_succ]; exact Nat.mul_le_mul_left _ hjy
      rw [List.getElem?_append_left (by omega)]
      exact ih hjy
    · obtain rfl : j = y := by omega
      rw [List.getElem?_append_right (by omega), hl, Nat.add_sub_cancel_left]
      exact row_get hi
theorem cells_get {w h n : Nat} (hn : n < w * h) : (cellsD w h)[n]? = some (spotD (n % w : Nat) (n / w : Nat)) := by
  have hw : 0 < w := by
    rcases Nat.eq_zero_or_pos w with rfl | h
    · simp at hn
    · exact h
  have h1 := Nat.mod_lt n hw
  have h2 : n / w < h := (Nat.div_lt_iff_lt_mul hw).2 (by rwa [Nat.mul_comm])
  have := cells_getTo h2 h1
  rwa [Nat.div_add_mod] at this
theorem cellsD_length {w h : Nat} : (cellsD w h).length = w * h := by unfold cellsD; rw [cellsTo_length]; rfl
theorem cell_in {w h n : Nat} (hn : n < w * h) : n % w < w ∧ n / w < h := by
  have hw : 0 < w := by
    rcases Nat.eq_zero_or_pos w with rfl | h
    · simp at hn
    · exact h
  exact ⟨Nat.mod_lt n hw, (Nat.div_lt_iff_lt_mul hw).2 (by rwa [Nat.mul_comm])⟩
theorem u1_upTo {F : Nat → Int} {d v : Int} {n k : Nat} (h : k < n) : u1 (upTo F d n) k v = upTo (u1 F k v) d n := by
  funext j; unfold u1 upTo
  by_cases e : j = k
  · subst e; simp [h]
  · simp [e]
theorem upTo_at {F : Nat → Int} {d : Int} {n k : Nat} (h : k < n) : upTo F d n k = F k := by simp [upTo, h]
theorem upTo_const {n : Nat} {d : Int} : upTo (fun _ => d) d n = fun _ => d := by funext j; simp [upTo]
theorem u1_step {F d : Nat → Int} {k : Nat} : u1 (fun i => F i + if i < k then d i else 0) k (F k + d k) = fun i => F i + if i < k + 1 then d i else 0 := by
  funext i; unfold u1
  by_cases e : i = k
  · subst e; simp
  · by_cases e2 : i < k
    · simp [e, e2, show i < k + 1 by omega]
    · simp [e, e2, show ¬ i < k + 1 by omega]
theorem step3 {F d : Nat → Int} {k : Nat} {v : Int} (hk : k < 3) (hv : v = F k + d k) : u1 (upTo (fun i => F i + if i < k then d i else 0) 0 3) k v = upTo (fun i => F i + if i < k + 1 then d i else 0) 0 3 := by
  rw [u1_upTo hk, hv, u1_step]
theorem end3 {F d : Nat → Int} : upTo (fun i => F i + if i < 3 then d i else 0) 0 3 = upTo (fun i => F i + d i) 0 3 := by
  funext j; unfold upTo
  by_cases h : j < 3 <;> simp [h]
theorem beg3 {F d : Nat → Int} : upTo (fun i => F i + if i < 0 then d i else 0) 0 3 = upTo F 0 3 := by
  funext j; simp [upTo]
theorem sumTo_congr {f g : Nat → Int} {n : Nat} (h : ∀ k < n, f k = g k) : sumTo f n = sumTo g n := by
  induction n with
  | zero => rfl
  | succ n ih => rw [sumTo, sumTo, ih fun k hk => h k (by omega), h n (by omega)]
theorem sumTo_app {f : Nat → Int} {a b : Nat} : sumTo f (a + b) = sumTo f a + sumTo (fun i => f (a + i)) b := by
  induction b with
  | zero => simp [sumTo]
  | succ b ih => rw [← Nat.add_assoc, sumTo, ih, sumTo]; omega
theorem sumTo_const0 {n : Nat} : sumTo (fun _ => 0) n = 0 := by
  induction n with
  | zero => rfl
  | succ n ih => rw [sumTo, ih]; rfl
theorem sumTo_ext {f : Nat → Int} {a b : Nat} (hab : a ≤ b) (h : ∀ k, a ≤ k → k < b → f k = 0) : sumTo f b = sumTo f a := by
  obtain ⟨c, rfl⟩ := Nat.exists_eq_add_of_le hab
  have : sumTo (fun i => f (a + i)) c = sumTo (fun _ => 0) c := sumTo_congr fun k hk => h _ (by omega) (by omega)
  rw [sumTo_app, this, sumTo_const0, Int.add_zero]
theorem sumTo_cells {g : Nat → Nat → Int} {w h : Nat} : sumTo (fun m => g (m / w) (m % w)) (w * h) = sumTo (fun y => sumTo (fun x => g y x) w) h := by
  induction h with
  | zero => rfl
  | succ h ih =>
    rw [Nat.mul_succ, sumTo_app, ih, sumTo]
    congr 1
    refine sumTo_congr fun k hk => ?_
    have hw : 0 < w := by omega
    rw [Nat.mul_add_div hw, Nat.mul_add_mod, Nat.mod_eq_of_lt hk, Nat.div_eq_of_lt hk, Nat.add_zero]
theorem sumTo_bd {f : Nat → Int} {n : Nat} {c : Int} (hc : 0 ≤ c) (hn : n ≤ 8) (h : ∀ k < n, -c ≤ f k ∧ f k ≤ c) : -(8 * c) ≤ sumTo f n ∧ sumTo f n ≤ 8 * c := by
  obtain ⟨h1, h2⟩ := sumTo_le h
  have : c * n ≤ c * 8 := Int.mul_le_mul_of_nonneg_left (by omega) hc
  rw [Int.neg_mul] at h1
  omega
/-- The sum over the first cells, and over all places. -/
def sumCells (s : SheetM) (g : Nat → Nat → Int) (n : Nat) : Int := sumTo (fun m => g (m / s.w.toNat) (m % s.w.toNat)) n
theorem sumCells_zero {s : SheetM} {g : Nat → Nat → Int} : sumCells s g 0 = 0 := rfl
theorem sumCells_succ {s : SheetM} {g : Nat → Nat → Int} {n : Nat} : sumCells s g (n + 1) = sumCells s g n + g (n / s.w.toNat) (n % s.w.toNat) := rfl
def sumAll (g : Nat → Nat → Int) : Int := sumTo (fun y => sumTo (fun x => g y x) 8) 8
theorem sumCells_all {s : SheetM} {g : Nat → Nat → Int} (hs : small s) (h : ∀ y < 8, ∀ x < 8, ¬ (x < s.w.toNat ∧ y < s.h.toNat) → g y x = 0) : sumCells s g (s.w.toNat * s.h.toNat) = sumAll g := by
  unfold sumCells sumAll
  rw [sumTo_cells]
  rw [sumTo_ext (a := s.h.toNat) (b := 8) (by omega) fun y h1 h2 => ?_]
  · refine sumTo_congr fun y hy => (sumTo_ext (by omega) fun x h1 h2 => h y (by omega) x h2 (by omega)).symm
  · rw [sumTo_congr (g := fun _ => 0) (fun x hx => h y h2 x hx (by omega)), sumTo_const0]
theorem valid_out {s : SheetM} (hv : validS s) {x y : Nat} (hx : x < 8) (hy : y < 8) (h : ¬ (x < s.w.toNat ∧ y < s.h.toNat)) : s.wet y x = 0 ∧ ∀ k < 3, s.dye y x k = 0 := by
  have h1 := (hv.2.2 y hy x hx).2.2.2
  rcases h1 with h1 | h1
  · unfold hasP at h1; omega
  · unfold wetM at h1
    simp only [Int.toNat_natCast] at h1
    refine ⟨h1.1, fun k hk => ?_⟩
    match k, hk with
    | 0, _ => exact h1.2.1
    | 1, _ => exact h1.2.2.1
    | 2, _ => exact h1.2.2.2
theorem valid_small {s : SheetM} (hv : validS s) : small s := ⟨⟨by have := hv.1; omega, hv.1.2⟩, by have := hv.2.1; omega, hv.2.1.2⟩
noncomputable def codeM (s : SheetM) (r : Bool) : Int := if validS s then (if r then 0 else 2) else 1
theorem upTo_P {f : Nat → Int} {n : Nat} {p : Int → Prop} (hf : ∀ i, p (f i)) (h0 : p 0) (i : Nat) : p (upTo f 0 n i) := by
  unfold upTo; split
  · exact hf i
  · exact h0
theorem nS_Ok {s : SheetM} (h : s.Ok) : (nS s).Ok := by
  refine ⟨h.w, h.h, fun i j => ?_, fun i j k => ?_, fun i => ?_⟩
  · have e : n88 s.wet i j = if i < 8 then n8 (s.wet i) j else 0 := by unfold n88 upTo; split <;> rfl
    show -32768 ≤ n88 s.wet i j ∧ n88 s.wet i j < 32768
    rw [e]; split
    · exact upTo_P (p := fun x => -32768 ≤ x ∧ x < 32768) (h.wet i) (by omega) j
    · omega
  · have e : n883 s.dye i j k = if i < 8 then (if j < 8 then n3 (s.dye i j) k else 0) else 0 := by
      by_cases hi : i < 8 <;> by_cases hj : j < 8 <;> simp [hi, hj, n883, n83, upTo]
    show -32768 ≤ n883 s.dye i j k ∧ n883 s.dye i j k < 32768
    rw [e]; split
    · split
      · exact upTo_P (p := fun x => -32768 ≤ x ∧ x < 32768) (h.dye i j) (by omega) k
      · omega
    · omega
  · exact upTo_P (p := fun x => 0 ≤ x ∧ x < 256) h.wax (by omega) i
end Ink
/- The top of a law that answers true and takes values without pointers: what the row asks, out of a contract. No conditions. -/
namespace Ink
open Go Go.ChangeShapes Go.WideShapes Go.RowKit

/-- A type that holds no pointer. -/
def pureT (P : Program) : Nat → TypeId → Bool
  | 0, _ => false
  | k + 1, t => match P.underlying t with
    | some .bool => true
    | some (.int _) => true
    | some .string => true
    | some (.struct fs) => fs.toList.all fun f => pureT P k f.type
    | some (.array _ e) => pureT P k e
    | _ => false

theorem mapM_pure {α β : Type} {F F' : α → Option (β × List MemPlace)} : ∀ {l : List α} {xs}, (∀ a ∈ l, ∀ x, F a = some x → x.2 = [] ∧ F' a = some x) → l.mapM F = some xs → l.mapM F' = some xs ∧ xs.flatMap (·.2) = []
  | [], xs, _, h => by simp at h; subst h; simp
  | a :: l, xs, hF, h => by
    rw [List.mapM_cons] at h
    cases hq : F a with
    | none => simp [hq] at h
    | some x =>
      cases hr : l.mapM F with
      | none => simp [hq, hr] at h
      | some ys =>
        simp [hq, hr] at h
        subst h
        obtain ⟨h1, h2⟩ := hF a (by simp) x hq
        obtain ⟨h3, h4⟩ := mapM_pure (l := l) (fun b hb => hF b (by simp [hb])) hr
        rw [List.mapM_cons]
        simp [h2, h3, h1, h4]

section
variable {H : Type} {enc : TypeId × Value → H} {P : Program} {w w' : World} {base base' : Nat} {sp sp' : Nat → Bool} {hd hd' : Bool}
theorem pure_trod : ∀ {fuel k : Nat} {t : TypeId} {cs : List Value} {x : DataW H × List MemPlace}, pureT P k t = true → DataW.trod enc P w base sp hd fuel t cs = some x → x.2 = [] ∧ DataW.trod enc P w' base' sp' hd' fuel t cs = some x
  | 0, _, _, _, _, _, h => by simp [DataW.trod] at h
  | _ + 1, 0, _, _, _, hp, _ => by simp [pureT] at hp
  | fuel + 1, k + 1, t, cs, x, hp, h => by
    unfold pureT at hp
    unfold DataW.trod at h ⊢
    cases hu : P.underlying t with
    | none => rw [hu] at hp; cases hp
    | some u =>
      rw [hu] at hp
      cases u <;> first | (cases hp; done) | skip
      case bool =>
        rw [hu] at h
        dsimp only at h ⊢
        split at h
        all_goals first | (cases h; done) | skip
        all_goals (try (rename_i e1; cases e1))
        all_goals first | (cases h; exact ⟨rfl, rfl⟩) | skip
      case int q =>
        rw [hu] at h
        match cs, h with
        | [.int k' n], h =>
          dsimp only at h ⊢
          split at h
          · rename_i hc
            cases h
            exact ⟨rfl, by rw [if_pos hc]⟩
          · cases h
      case string =>
        rw [hu] at h
        match cs, h with
        | [.string s], h =>
          dsimp only at h ⊢
          split at h
          · rename_i hc
            cases h
            exact ⟨rfl, by rw [if_pos hc]⟩
          · cases h
      case struct fs =>
        rw [hu] at h
        dsimp only at h hp ⊢
        split at h
        · rename_i hc
          rw [if_pos hc]
          rw [Option.map_eq_some_iff] at h
          obtain ⟨xs, h1, rfl⟩ := h
          have hall := List.all_eq_true.1 hp
          obtain ⟨h2, h3⟩ := mapM_pure (F' := fun f => DataW.trod enc P w' base' sp' hd' fuel f.type ((cs.drop f.offset).take (P.cellsOf f.type))) (fun f hf x hx => pure_trod (hall f hf) hx) h1
          exact ⟨h3, by rw [h2]; rfl⟩
        · cases h
      case array n e =>
        rw [hu] at h
        dsimp only at h hp ⊢
        split at h
        · rename_i hc
          rw [if_pos hc]
          rw [Option.map_eq_some_iff] at h
          obtain ⟨xs, h1, rfl⟩ := h
          obtain ⟨h2, h3⟩ := mapM_pure (F' := fun i => DataW.trod enc P w' base' sp' hd' fuel e ((cs.drop (i * P.cellsOf e)).take (P.cellsOf e))) (fun f hf x hx => pure_trod hp hx) h1
          exact ⟨h3, by rw [h2]; rfl⟩
        · cases h
theorem pure_Trod {k : Nat} {t : TypeId} {v : Value} {d : DataW H} {ps : List MemPlace} (hp : pureT P k t = true) (h : DataW.Trod enc P w base sp hd t v d ps) : ps = [] ∧ DataW.Trod enc P w' base' sp' hd' t v d [] := by
  obtain ⟨fuel, h⟩ := h
  obtain ⟨h1, h2⟩ := pure_trod (w' := w') (base' := base') (sp' := sp') (hd' := hd') hp h
  simp only at h1
  subst h1
  exact ⟨rfl, fuel, h2⟩
theorem pure_TrodAll {k : Nat} : ∀ {ts : List TypeId} {vs : List Value} {ds : List (DataW H)} {ps : List MemPlace}, (ts.all fun t => pureT P k t) = true → DataW.TrodAll enc P w base sp hd ts vs ds ps → ps = [] ∧ DataW.TrodAll enc P w' base' sp' hd' ts vs ds []
  | [], [], [], ps, _, h => by
    simp only [DataW.TrodAll] at h ⊢
    exact ⟨h, trivial⟩
  | t :: ts, v :: vs, d :: ds, ps, hp, h => by
    simp only [List.all_cons, Bool.and_eq_true] at hp
    obtain ⟨p, q, h1, h2, rfl⟩ := h
    obtain ⟨rfl, h3⟩ := pure_Trod (w' := w') (base' := base') (sp' := sp') (hd' := hd') hp.1 h1
    obtain ⟨rfl, h4⟩ := pure_TrodAll hp.2 h2
    exact ⟨rfl, [], [], h3, h4, rfl⟩
  | [], _ :: _, _, _, _, h => h.elim
  | [], [], _ :: _, _, _, h => h.elim
  | _ :: _, [], _, _, _, h => h.elim
  | _ :: _, _ :: _, [], _, _, h => h.elim

/-- What a row asks that says 'true, and the arguments read as they did', where no argument holds a pointer. -/
theorem post_true {f : Func} {s : ChangeSpec} {apart fresh handsOn : Bool} {W W' : World} {args : Array Value} {ds gs : List (DataW H)} {before : List MemPlace} {k : Nat} {tb : TypeId}
    (hW : DataW.Whole enc P f.params.toList s.vars apart W args.toList ds gs before) (hv : s.vars = []) (hp : (f.params.toList.all fun t => pureT P k t) = true) (hr : f.resultTypes = #[tb]) (htb : P.underlying tb = some .bool)
    (hsr : (s.fn H (ds ++ gs)).results = [.lit (.bool true)]) (hsa : (s.fn H (ds ++ gs)).args = ds) (hsv : (s.fn H (ds ++ gs)).vars = [])
    (hk : W.keptBut W' fun _ => False) : s.post enc P f apart fresh handsOn false W args (.bool true) W' := by
  obtain ⟨p, q, hA, hV, rfl, hfz, hnd⟩ := id hW
  obtain ⟨rfl, _⟩ := pure_TrodAll (w' := W') (base' := 0) (sp' := fun _ => true) (hd' := true) hp hA
  rw [hv] at hV
  obtain ⟨rfl, rfl⟩ := trodVars_none hV
  have hA' : ∀ sp, DataW.TrodAll enc P W' 0 sp true f.params.toList args.toList ds [] := fun sp => (pure_TrodAll (w' := W') (base' := 0) (sp' := sp) (hd' := true) hp hA).2
  have hres : ∀ b sp hd, DataW.TrodAll enc P W' b sp hd f.resultTypes.toList ((Value.bool true).resultList f.resultTypes.size) (s.fn H (ds ++ [])).results [] := by
    intro b sp hd
    rw [hr, hsr]
    exact trodAll_mk1 (shut_bool htb true)
  refine ⟨ds, [], [], [], [], [], hW, hres _ _ _, by rw [hsa]; exact hA' _, ?_, World.keptBut_mono (fun p hp => hp.elim) hk, fun e => nomatch e⟩
  rw [hv, hsv]
  rfl

theorem kept_of_inv {ρ ρ' : Nat → Nat} {H' : Heap} (h : Inv ⟨ρ, w, [], [], fun _ => True, []⟩ ρ' H' w') : w.keptBut w' fun _ => False := by
  refine ⟨h.os, h.out, fun i hi => ?_⟩
  have := h.old i trivial hi fun j hj => by simp at hj
  rw [this]
  cases w.heap[i]? with
  | none => simp
  | some o => cases o <;> simp
end

/-! ### Arguments that are rows of whole numbers and bools -/
def rdI (cs : List Value) (i : Nat) : Int := match cs[i]? with | some (.int _ n) => n | _ => 0
def rdB (cs : List Value) (i : Nat) : Bool := match cs[i]? with | some (.bool b) => b | _ => false
def mkLeaf (g : Nat → Int) (b : Nat → Bool) (L : List TypeDesc) (i : Nat) : Value := match L[i]? with | some (.int k) => .int k (g i) | some .bool => .bool (b i) | _ => .nilIface
def leafOk (L : List TypeDesc) : Bool := L.all fun x => match x with | .int _ => true | .bool => true | _ => false

theorem open_cells {P : Program} {w : World} {r : Reach} {base : Nat} {t : TypeId} {v : Value} {ts : List TypeId} {L : List TypeDesc}
    (hu : (match P.underlying t with | some (.struct _) => true | some (.array _ _) => true | _ => false) = true) (hts : P.cellTypes P.depth t = some ts) (hc : P.cellsOf t = L.length) (hL : ts.map P.underlying = L.map some) (hl : leafOk L = true)
    (hval : Value.okWide P w r base t v) : ∃ cs : Array Value, v = .agg cs ∧ cs.toList = (List.range L.length).map (mkLeaf (rdI cs.toList) (rdB cs.toList) L) ∧ ∀ (i : Nat) (k : IntKind), L[i]? = some (TypeDesc.int k) → (Lit.int k (rdI cs.toList i)).wf = true := by
  have hlen : ts.length = L.length := by have := congrArg List.length hL; simpa using this
  have hval' : ∃ cs, v = .agg cs ∧ cs.size = P.cellsOf t ∧ Row.okWide P w r base t cs := by
    unfold Value.okWide at hval
    cases hq : P.underlying t with
    | none => rw [hq] at hu; cases hu
    | some u =>
      rw [hq] at hu hval
      cases u <;> first | (cases hu; done) | exact hval
  obtain ⟨cs, rfl, hsz, ts', h1, _, h3⟩ := hval'
  rw [hts] at h1
  cases h1
  have hcs : cs.toList.length = L.length := by rw [Array.length_toList, hsz, hc]
  have hcell : ∀ (i : Nat) (x : Value), cs.toList[i]? = some x → ∃ u : TypeDesc, L[i]? = some u ∧ ((∃ (k : IntKind) (n : Int), u = TypeDesc.int k ∧ x = Value.int k n ∧ (Lit.int k n).wf = true) ∨ ∃ b : Bool, u = TypeDesc.bool ∧ x = Value.bool b) := by
    intro i x hx
    have hi : i < L.length := by rw [← hcs]; exact (List.getElem?_eq_some_iff.1 hx).1
    obtain ⟨u, hu1, hu2⟩ := h3 i x (by simpa using hx)
    rw [Nat.mod_eq_of_lt (by omega)] at hu1
    have hLi : L[i]? = some L[i] := List.getElem?_eq_getElem hi
    have hun : P.underlying u = some L[i] := by
      have := congrArg (fun l => l[i]?) hL
      simp only [List.getElem?_map, hu1, hLi, Option.map_some] at this
      exact Option.some.inj this
    have hleaf := List.all_eq_true.1 hl L[i] (List.getElem_mem hi)
    refine ⟨L[i], hLi, ?_⟩
    cases hd : L[i] with
    | int k =>
      rw [hd] at hun
      have hw : Value.okWide P w r base u x := by simp only [Value.okWide, hun]; exact hu2
      obtain ⟨n, rfl⟩ := okWide_int hun hw
      have hn : (Lit.int k n).wf = true := by
        simp only [Cell.okWide, hun, Cell.ok, IntKind.has] at hu2
        simpa [Lit.wf] using hu2
      exact .inl ⟨k, n, rfl, rfl, hn⟩
    | bool =>
      rw [hd] at hun
      obtain ⟨b, rfl⟩ := okWide_bool hun (show Value.okWide P w r base u x by simp only [Value.okWide, hun]; exact hu2)
      exact .inr ⟨b, rfl, rfl⟩
    | _ => rw [hd] at hleaf; cases hleaf
  refine ⟨cs, rfl, ?_, ?_⟩
  · apply List.ext_getElem?
    intro i
    rw [List.getElem?_map]
    by_cases hi : i < L.length
    · rw [List.getElem?_range hi]
      obtain ⟨x, hx⟩ : ∃ x, cs.toList[i]? = some x := ⟨_, List.getElem?_eq_getElem (by omega)⟩
      obtain ⟨u, hu1, hu2⟩ := hcell i x hx
      rw [hx]
      simp only [Option.map_some, mkLeaf, hu1]
      rcases hu2 with ⟨k, n, rfl, rfl, _⟩ | ⟨b, rfl, rfl⟩
      · simp [rdI, hx]
      · simp [rdB, hx]
    · rw [List.getElem?_eq_none (by omega), List.getElem?_eq_none (by simpa using hi)]
      rfl
  · intro i k hik
    have hi : i < L.length := (List.getElem?_eq_some_iff.1 hik).1
    obtain ⟨x, hx⟩ : ∃ x, cs.toList[i]? = some x := ⟨_, List.getElem?_eq_getElem (by omega)⟩
    obtain ⟨u, hu1, hu2⟩ := hcell i x hx
    rw [hik] at hu1
    cases hu1
    rcases hu2 with ⟨k', n, e, rfl, hn⟩ | ⟨b, e, rfl⟩
    · cases e
      simp only [rdI, hx]
      exact hn
    · cases e

/-! ### Sheets as arguments -/
def sheetOf (g : Nat → Int) : SheetM := ⟨g 0, g 1, fun i j => g (2 + 8 * i + j), fun i j k => g (66 + 24 * i + 3 * j + k), fun i => g (258 + i)⟩
def kSheet (i : Nat) : IntKind := if i < 2 then .i8 else if i < 258 then .i16 else .u8
def lSheet : List TypeDesc := (List.range 266).map fun i => TypeDesc.int (kSheet i)
theorem lSheet_get {i : Nat} (h : i < 266) : lSheet[i]? = some (TypeDesc.int (kSheet i)) := by
  unfold lSheet; rw [List.getElem?_map, List.getElem?_range h]; rfl
theorem sheetOf_Ok {g : Nat → Int} (h : ∀ (i : Nat) (k : IntKind), lSheet[i]? = some (TypeDesc.int k) → (Lit.int k (g i)).wf = true) (h0 : ∀ i, 266 ≤ i → g i = 0) : (sheetOf g).Ok := by
  have h16 : ∀ i, -32768 ≤ g i ∧ g i < 32768 := by
    intro i
    by_cases hi : i < 266
    · have := h i _ (lSheet_get hi)
      unfold kSheet at this
      split at this
      · simp [Lit.wf, IntKind.min, IntKind.max, IntKind.signed, IntKind.bits] at this; omega
      · split at this
        · simp [Lit.wf, IntKind.min, IntKind.max, IntKind.signed, IntKind.bits] at this; omega
        · simp [Lit.wf, IntKind.min, IntKind.max, IntKind.signed, IntKind.bits] at this; omega
    · rw [h0 i (by omega)]; omega
  have h8 : ∀ i, i < 2 → -128 ≤ g i ∧ g i < 128 := by
    intro i hi
    have := h i _ (lSheet_get (by omega))
    unfold kSheet at this
    rw [if_pos hi] at this
    simp [Lit.wf, IntKind.min, IntKind.max, IntKind.signed, IntKind.bits] at this; omega
  have hu : ∀ i, 258 ≤ i → 0 ≤ g i ∧ g i < 256 := by
    intro i hi
    by_cases hi2 : i < 266
    · have := h i _ (lSheet_get hi2)
      unfold kSheet at this
      rw [if_neg (by omega), if_neg (by omega)] at this
      simp [Lit.wf, IntKind.min, IntKind.max, IntKind.signed, IntKind.bits] at this; omega
    · rw [h0 i (by omega)]; omega
  exact ⟨h8 0 (by omega), h8 1 (by omega), fun i j => h16 _, fun i j k => h16 _, fun i => hu _ (by omega)⟩
theorem range_rows {α : Type} (F : Nat → α) (a b : Nat) : (List.range (a * b)).map F = (List.range a).flatMap fun i => (List.range b).map fun j => F (b * i + j) := by
  induction a with
  | zero => simp
  | succ a ih =>
    rw [Nat.succ_mul, List.range_add, List.map_append, ih, List.range_succ, List.flatMap_append]
    simp [Nat.mul_comm]
theorem range_split {α : Type} (F : Nat → α) (a b : Nat) : (List.range (a + b)).map F = (List.range a).map F ++ (List.range b).map fun i => F (a + i) := by
  rw [List.range_add, List.map_append, List.map_map]; rfl
theorem app2 {α : Type} {a a' b b' : List α} (h : a = a') (h' : b = b') : a ++ b = a' ++ b' := by rw [h, h']
theorem flatMap_ext {α : Type} {f g : Nat → List α} {n : Nat} (h : ∀ i < n, f i = g i) : (List.range n).flatMap f = (List.range n).flatMap g := by
  rw [List.flatMap_def, List.flatMap_def, List.map_congr_left fun i hi => h i (by simpa using hi)]
theorem flat_a1 {n : Nat} {k : IntKind} {f : Nat → Int} : flat (.arr n (.int k)) (a1 k f) = (List.range n).map fun i => Value.int k (f i) := by
  unfold a1; rw [flat, List.map_eq_flatMap]; rfl
theorem flat_sheet (g : Nat → Int) (b : Nat → Bool) : (List.range lSheet.length).map (mkLeaf g b lSheet) = flat shSheet (sheetD (sheetOf g)) := by
  have hl : lSheet.length = 2 + (8 * 8 + (8 * 24 + 8)) := by simp [lSheet]
  have hm : ∀ i, i < 266 → mkLeaf g b lSheet i = .int (kSheet i) (g i) := fun i hi => by unfold mkLeaf; rw [lSheet_get hi]
  have e1 : (List.range lSheet.length).map (mkLeaf g b lSheet) = (List.range (2 + (8 * 8 + (8 * 24 + 8)))).map fun i => .int (kSheet i) (g i) := by
    rw [hl]
    exact List.map_congr_left fun i hi => hm i (by simpa using hi)
  rw [e1, range_split, range_split, range_split, range_rows, range_rows]
  have k1 : ∀ i < 8, ∀ j < 8, kSheet (2 + (8 * i + j)) = .i16 := fun i hi j hj => by unfold kSheet; rw [if_neg (by omega), if_pos (by omega)]
  have k2 : ∀ i < 8, ∀ j < 24, kSheet (2 + (8 * 8 + (24 * i + j))) = .i16 := fun i hi j hj => by unfold kSheet; rw [if_neg (by omega), if_pos (by omega)]
  have k3 : ∀ i < 8, kSheet (2 + (8 * 8 + (8 * 24 + i))) = .u8 := fun i hi => by unfold kSheet; rw [if_neg (by omega), if_neg (by omega)]
  have f1 : flat shSheet (sheetD (sheetOf g)) = [Value.int .i8 (g 0), Value.int .i8 (g 1)] ++ ((List.range 8).flatMap (fun i => flat (.arr 8 (.int .i16)) (a1 .i16 fun j => g (2 + 8 * i + j))) ++
      ((List.range 8).flatMap (fun i => (List.range 8).flatMap fun j => flat (.arr 3 (.int .i16)) (a1 .i16 fun k => g (66 + 24 * i + 3 * j + k))) ++ flat (.arr 8 (.int .u8)) (a1 .u8 fun i => g (258 + i)))) := by
    show [Value.int .i8 (g 0)] ++ ([Value.int .i8 (g 1)] ++ (_ ++ (_ ++ (_ ++ [])))) = _
    rw [List.append_nil]
    rfl
  rw [f1]
  refine app2 rfl (app2 ?_ (app2 ?_ ?_))
  · refine flatMap_ext fun i hi => ?_
    rw [flat_a1]
    refine List.map_congr_left fun j hj => ?_
    rw [k1 i hi j (by simpa using hj), Nat.add_assoc]
  · refine flatMap_ext fun i hi => ?_
    rw [show 24 = 8 * 3 from rfl, range_rows]
    refine flatMap_ext fun j hj => ?_
    rw [flat_a1]
    refine List.map_congr_left fun k hk => ?_
    have hk : k < 3 := by simpa using hk
    have e : 2 + (8 * 8 + (8 * 3 * i + (3 * j + k))) = 66 + 24 * i + 3 * j + k := by omega
    rw [e]
    have := k2 i hi (3 * j + k) (by omega)
    rw [show 2 + (8 * 8 + (24 * i + (3 * j + k))) = 66 + 24 * i + 3 * j + k by omega] at this
    rw [this]
  · rw [flat_a1]
    refine List.map_congr_left fun j hj => ?_
    have hj : j < 8 := by simpa using hj
    have := k3 j hj
    rw [show 2 + (8 * 8 + (8 * 24 + j)) = 258 + j by omega] at this ⊢
    rw [this]
theorem zho {s : SheetM} : Has shSheet (sheetD s) := ⟨rfl, rfl, fun _ _ => fun _ _ => rfl, fun _ _ => fun _ _ => fun _ _ => rfl, fun _ _ => rfl, trivial⟩
/-- A sheet that comes from outside. -/
theorem open_sheet {P : Program} {w : World} {r : Reach} {base : Nat} {t : TypeId} {v : Value}
    (hu : (match P.underlying t with | some (.struct _) => true | some (.array _ _) => true | _ => false) = true) (hc : P.cellsOf t = 266) (hL0 : ((P.cellTypes P.depth t).map fun ts => ts.map P.underlying) = some (lSheet.map some))
    (hval : Value.okWide P w r base t v) : ∃ s : SheetM, s.Ok ∧ v = .agg (flat shSheet (sheetD s)).toArray := by
  rw [Option.map_eq_some_iff] at hL0
  obtain ⟨ts, hts, hL⟩ := hL0
  obtain ⟨cs, rfl, h1, h2⟩ := open_cells hu hts (by rw [hc]; simp [lSheet]) hL (by simp [leafOk, lSheet]) hval
  have hlen : cs.toList.length = 266 := by rw [h1]; simp [lSheet]
  refine ⟨sheetOf (rdI cs.toList), sheetOf_Ok h2 fun i hi => ?_, ?_⟩
  · unfold rdI
    rw [List.getElem?_eq_none (by omega)]
  · rw [← flat_sheet _ (rdB cs.toList), ← h1]
end Ink
/- More of what the program means: colours, askings. No conditions. -/
namespace Ink
open Go
noncomputable def askM (s : SheetM) (x y : Int) (r : Bool) : Int := if validS s then (if hasP s x y ∧ r = true then 0 else 2) else 1
/-- The last place of a number among the first, and how many there are. -/
def inkTo (f : Nat → Int) (m : Int) : Nat → Int × Int
  | 0 => (0, 0)
  | n + 1 => if f n = m then ((n : Int), (inkTo f m n).2 + 1) else inkTo f m n
theorem inkTo_zero {f m} : inkTo f m 0 = (0, 0) := rfl
theorem inkTo_yes {f : Nat → Int} {m : Int} {n : Nat} (h : f n = m) : inkTo f m (n + 1) = ((n : Int), (inkTo f m n).2 + 1) := by rw [inkTo, if_pos h]
theorem inkTo_no {f : Nat → Int} {m : Int} {n : Nat} (h : ¬ f n = m) : inkTo f m (n + 1) = inkTo f m n := by rw [inkTo, if_neg h]
theorem inkTo_nn {f m} {n : Nat} : 0 ≤ (inkTo f m n).2 ∧ (inkTo f m n).2 ≤ n ∧ 0 ≤ (inkTo f m n).1 ∧ (inkTo f m n).1 ≤ n := by
  induction n with
  | zero => simp [inkTo]
  | succ n ih =>
    rw [inkTo]; split
    · dsimp only; omega
    · omega
theorem inkTo_mono {f m} {a b : Nat} (h : a ≤ b) : (inkTo f m a).2 ≤ (inkTo f m b).2 := by
  induction b with
  | zero => obtain rfl : a = 0 := by omega
            exact Int.le_refl _
  | succ b ih =>
    by_cases e : a = b + 1
    · subst e; exact Int.le_refl _
    · have := ih (by omega)
      rw [inkTo.eq_2]; split
      · dsimp only; omega
      · exact this
theorem inkTo_pos {f m} {a b : Nat} (h : a < b) (e : f a = m) : 0 < (inkTo f m b).2 := by
  have h1 := inkTo_mono (f := f) (m := m) (show a + 1 ≤ b from h)
  rw [inkTo_yes e] at h1
  have := inkTo_nn (f := f) (m := m) (n := a)
  dsimp only at h1
  omega
def maxM (a b : Int) : Int := if b < a then a else b
def max3 (f : Nat → Int) : Int := maxM (f 0) (maxM (f 1) (f 2))
theorem max3_one {f : Nat → Int} : f 0 = max3 f ∨ f 1 = max3 f ∨ f 2 = max3 f := by unfold max3 maxM; split <;> split <;> simp
def colourM (f : Nat → Int) : Int := if max3 f = 0 then -1 else if 1 < (inkTo f (max3 f) 3).2 then 3 else (inkTo f (max3 f) 3).1
theorem inkTo_some {f : Nat → Int} : 0 < (inkTo f (max3 f) 3).2 := by
  rcases max3_one (f := f) with h | h | h
  · exact inkTo_pos (by omega) h
  · exact inkTo_pos (by omega) h
  · exact inkTo_pos (by omega) h
def bestI (p : Int × Int) : Int := if p.2 = 0 then -1 else p.1
theorem bestI_nn {f m} {k : Nat} : 0 ≤ bestI (inkTo f m k) ↔ (inkTo f m k).2 ≠ 0 := by
  have := inkTo_nn (f := f) (m := m) (n := k)
  unfold bestI; split <;> omega
theorem mm_max3 {f : Nat → Int} : mm true (mm true (f 0) (f 1)) (f 2) = max3 f := by
  unfold max3 maxM mm
  simp only [if_true]
  repeat' split
  all_goals omega
theorem ask_code {s : SheetM} {x y : Int} {r : Bool} : askM s x y r = codeM s (decide (hasP s x y) && r) := by
  unfold askM codeM
  by_cases h : hasP s x y <;> cases r <;> simp [h]
theorem ask_ok {s : SheetM} {x y : Int} {r : Bool} (hv : validS s) (hh : hasP s x y) (hr : r = true) : askM s x y r = 0 := by simp [askM, hv, hh, hr]
theorem ask_in8 {s : SheetM} {x y : Int} (hv : validS s) (hh : hasP s x y) : in8 x y := by
  have := hv.1; have := hv.2.1; unfold hasP at hh; omega
theorem askM_cases (s : SheetM) (x y : Int) (r : Bool) : (askM s x y r = 0 ∧ validS s ∧ hasP s x y ∧ r = true) ∨ askM s x y r = 1 ∨ askM s x y r = 2 := by
  unfold askM
  by_cases hv : validS s
  · by_cases h : hasP s x y ∧ r = true
    · simp [hv, h]
    · simp [hv, h]
  · simp [hv]
/-- What ends with a code if something is not right. -/
noncomputable def colourAtV (s : SheetM) (x y : Int) : AV := .tup [.int .i64 (if askM s x y true = 0 then colourM (s.dye y.toNat x.toNat) else 0), .int .i64 (askM s x y true)]
end Ink
/- Arguments of laws: spots, folds, brushes and whole numbers that come from outside. No conditions. -/
namespace Ink
open Go Go.ChangeShapes Go.WideShapes Go.RowKit
section
variable {H : Type} {enc : TypeId × Value → H} {P : Program} {w : World} {base : Nat} {sp : Nat → Bool} {hd : Bool}
theorem trod_len : ∀ {ts : List TypeId} {vs : List Value} {ds : List (DataW H)} {ps : List MemPlace}, DataW.TrodAll enc P w base sp hd ts vs ds ps → vs.length = ts.length ∧ ds.length = ts.length
  | [], [], [], _, _ => ⟨rfl, rfl⟩
  | _ :: ts, _ :: vs, _ :: ds, _, h => by
    obtain ⟨p, q, _, h1, _⟩ := h
    have := trod_len h1
    simp only [List.length_cons, this.1, this.2, and_self]
  | [], _ :: _, _, _, h => h.elim
  | [], [], _ :: _, _, h => h.elim
  | _ :: _, [], _, _, h => h.elim
  | _ :: _, _ :: _, [], _, h => h.elim
end
section
variable {α : Type} {l : List α} {A : Array α}
theorem list1 (h : l.length = 1) : ∃ a, l = [a] := by
  match l, h with | [a], _ => exact ⟨a, rfl⟩
theorem list2 (h : l.length = 2) : ∃ a b, l = [a, b] := by
  match l, h with | [a, b], _ => exact ⟨a, b, rfl⟩
theorem list3 (h : l.length = 3) : ∃ a b c, l = [a, b, c] := by
  match l, h with | [a, b, c], _ => exact ⟨a, b, c, rfl⟩
theorem list4 (h : l.length = 4) : ∃ a b c d, l = [a, b, c, d] := by
  match l, h with | [a, b, c, d], _ => exact ⟨a, b, c, d, rfl⟩
theorem list5 (h : l.length = 5) : ∃ a b c d e, l = [a, b, c, d, e] := by
  match l, h with | [a, b, c, d, e], _ => exact ⟨a, b, c, d, e, rfl⟩
theorem arr1 (h : A.toList.length = 1) : ∃ a, A = #[a] := by
  obtain ⟨a, h⟩ := list1 h
  exact ⟨a, Array.toList_inj.1 h⟩
theorem arr2 (h : A.toList.length = 2) : ∃ a b, A = #[a, b] := by
  obtain ⟨a, b, h⟩ := list2 h
  exact ⟨a, b, Array.toList_inj.1 h⟩
theorem arr3 (h : A.toList.length = 3) : ∃ a b c, A = #[a, b, c] := by
  obtain ⟨a, b, c, h⟩ := list3 h
  exact ⟨a, b, c, Array.toList_inj.1 h⟩
theorem arr4 (h : A.toList.length = 4) : ∃ a b c d, A = #[a, b, c, d] := by
  obtain ⟨a, b, c, d, h⟩ := list4 h
  exact ⟨a, b, c, d, Array.toList_inj.1 h⟩
theorem arr5 (h : A.toList.length = 5) : ∃ a b c d e, A = #[a, b, c, d, e] := by
  obtain ⟨a, b, c, d, e, h⟩ := list5 h
  exact ⟨a, b, c, d, e, Array.toList_inj.1 h⟩
end
def isRow : Option TypeDesc → Bool
  | some (.struct _) => true
  | some (.array _ _) => true
  | _ => false
theorem open_row {P : Program} {w : World} {r : Reach} {base : Nat} {t : TypeId} {v : Value} {L : List TypeDesc}
    (hu : isRow (P.underlying t) = true) (hc : P.cellsOf t = L.length) (hL0 : ((P.cellTypes P.depth t).map fun ts => ts.map P.underlying) = some (L.map some)) (hl : leafOk L = true)
    (hval : Value.okWide P w r base t v) : ∃ g b, v = .agg ((List.range L.length).map (mkLeaf g b L)).toArray ∧ ∀ (i : Nat) (k : IntKind), L[i]? = some (TypeDesc.int k) → (Lit.int k (g i)).wf = true := by
  rw [Option.map_eq_some_iff] at hL0
  obtain ⟨ts, hts, hL⟩ := hL0
  have hu' : (match P.underlying t with | some (.struct _) => true | some (.array _ _) => true | _ => false) = true := by
    unfold isRow at hu
    cases hq : P.underlying t with
    | none => rw [hq] at hu; cases hu
    | some u => rw [hq] at hu; cases u <;> first | rfl | cases hu
  obtain ⟨cs, rfl, h1, h2⟩ := open_cells hu' hts hc hL hl hval
  exact ⟨_, _, by rw [← h1], h2⟩
abbrev lSpot : List TypeDesc := [.int .i8, .int .i8]
abbrev lFold : List TypeDesc := [.int .i8, .bool, .int .i8]
abbrev lBrush : List TypeDesc := [.int .i16, .int .i16, .int .i16, .int .i16, .int .i8]
theorem wf8 {n : Int} (h : (Lit.int .i8 n).wf = true) : ok8 n := by
  simp [Lit.wf, IntKind.min, IntKind.max, IntKind.signed, IntKind.bits] at h; omega
abbrev ok16 (x : Int) : Prop := -32768 ≤ x ∧ x < 32768
theorem wf16 {n : Int} (h : (Lit.int .i16 n).wf = true) : ok16 n := by
  simp [Lit.wf, IntKind.min, IntKind.max, IntKind.signed, IntKind.bits] at h; omega
abbrev ok64 (x : Int) : Prop := -9223372036854775808 ≤ x ∧ x < 9223372036854775808
theorem wf64 {n : Int} (h : (Lit.int .i64 n).wf = true) : ok64 n := by
  simp [Lit.wf, IntKind.min, IntKind.max, IntKind.signed, IntKind.bits] at h; omega
structure FoldM.Ok (f : FoldM) : Prop where
  axis : -128 ≤ f.axis ∧ f.axis < 128
  press : -128 ≤ f.press ∧ f.press < 128
structure BrushM.Ok (b : BrushM) : Prop where
  dye : ∀ i, -32768 ≤ b.dye i ∧ b.dye i < 32768
  water : -32768 ≤ b.water ∧ b.water < 32768
  share : -128 ≤ b.share ∧ b.share < 128
theorem zmp {f : FoldM} : Has shFold (foldD f) := ⟨rfl, trivial, rfl, trivial⟩
theorem zhp {b : BrushM} : Has shBrush (brushD b) := ⟨fun _ _ => rfl, rfl, rfl, trivial⟩
section
variable {P : Program} {w : World} {r : Reach} {base : Nat} {t : TypeId} {v : Value}
theorem open_spot (hu : isRow (P.underlying t) = true) (hc : P.cellsOf t = 2) (hL0 : ((P.cellTypes P.depth t).map fun ts => ts.map P.underlying) = some (lSpot.map some))
    (hval : Value.okWide P w r base t v) : ∃ x y : Int, ok8 x ∧ ok8 y ∧ v = .agg (flat shSpot (spotD x y)).toArray := by
  obtain ⟨g, b, rfl, h⟩ := open_row (L := lSpot) hu hc hL0 rfl hval
  exact ⟨g 0, g 1, wf8 (h 0 .i8 rfl), wf8 (h 1 .i8 rfl), rfl⟩
theorem open_fold (hu : isRow (P.underlying t) = true) (hc : P.cellsOf t = 3) (hL0 : ((P.cellTypes P.depth t).map fun ts => ts.map P.underlying) = some (lFold.map some))
    (hval : Value.okWide P w r base t v) : ∃ f : FoldM, f.Ok ∧ v = .agg (flat shFold (foldD f)).toArray := by
  obtain ⟨g, b, rfl, h⟩ := open_row (L := lFold) hu hc hL0 rfl hval
  exact ⟨⟨g 0, b 1, g 2⟩, ⟨wf8 (h 0 .i8 rfl), wf8 (h 2 .i8 rfl)⟩, rfl⟩
theorem open_brush (hu : isRow (P.underlying t) = true) (hc : P.cellsOf t = 5) (hL0 : ((P.cellTypes P.depth t).map fun ts => ts.map P.underlying) = some (lBrush.map some))
    (hval : Value.okWide P w r base t v) : ∃ f : BrushM, f.Ok ∧ v = .agg (flat shBrush (brushD f)).toArray := by
  obtain ⟨g, b, rfl, h⟩ := open_row (L := lBrush) hu hc hL0 rfl hval
  have h0 := wf16 (h 0 .i16 rfl)
  have h1 := wf16 (h 1 .i16 rfl)
  have h2 := wf16 (h 2 .i16 rfl)
  refine ⟨⟨fun i => if i < 3 then g i else 0, g 3, g 4⟩, ⟨fun i => ?_, wf16 (h 3 .i16 rfl), wf8 (h 4 .i8 rfl)⟩, rfl⟩
  match i with
  | 0 => simpa using h0
  | 1 => simpa using h1
  | 2 => simpa using h2
  | i + 3 => show -32768 ≤ (if i + 3 < 3 then g (i + 3) else 0) ∧ (if i + 3 < 3 then g (i + 3) else 0) < 32768; rw [if_neg (by omega)]; omega
theorem open_i64 (hu : P.underlying t = some (.int .i64)) (hval : Value.okWide P w r base t v) : ∃ n : Int, ok64 n ∧ v = .int .i64 n := by
  obtain ⟨n, rfl⟩ := okWide_int hu hval
  refine ⟨n, wf64 ?_, rfl⟩
  simp only [Value.okWide, hu, Cell.okWide, Cell.ok, IntKind.has] at hval
  simpa [Lit.wf] using hval
end
end Ink
/- What the program means: the most of all cells, sheets that are equal, and sheets that are changed. No conditions. -/
namespace Ink
open Go
/-- The first of the first cells for which a number is greatest, and this; 0 if none is greater. -/
def mostTo (g : Nat → Nat → Int) (w : Nat) : Nat → Nat × Int
  | 0 => (0, 0)
  | n + 1 => if (mostTo g w n).2 < g (n / w) (n % w) then (n, g (n / w) (n % w)) else mostTo g w n
theorem mostTo_zero {g w} : mostTo g w 0 = (0, 0) := rfl
theorem mostTo_yes {g : Nat → Nat → Int} {w n : Nat} (h : (mostTo g w n).2 < g (n / w) (n % w)) : mostTo g w (n + 1) = (n, g (n / w) (n % w)) := by rw [mostTo, if_pos h]
theorem mostTo_no {g : Nat → Nat → Int} {w n : Nat} (h : ¬ (mostTo g w n).2 < g (n / w) (n % w)) : mostTo g w (n + 1) = mostTo g w n := by rw [mostTo, if_neg h]
/-- For numbers from 0 on: the number told is that of the cell told. -/
theorem mostTo_at {g : Nat → Nat → Int} {w n : Nat} (h : ∀ k < n + 1, 0 ≤ g (k / w) (k % w)) : (mostTo g w (n + 1)).2 = g ((mostTo g w (n + 1)).1 / w) ((mostTo g w (n + 1)).1 % w) ∧ (mostTo g w (n + 1)).1 ≤ n := by
  induction n with
  | zero =>
    by_cases e : (mostTo g w 0).2 < g (0 / w) (0 % w)
    · rw [mostTo_yes e]; exact ⟨rfl, Nat.le_refl _⟩
    · rw [mostTo_no e]
      have := h 0 (by omega)
      simp only [mostTo] at e ⊢
      refine ⟨?_, Nat.le_refl _⟩
      omega
  | succ n ih =>
    have := ih fun k hk => h k (by omega)
    by_cases e : (mostTo g w (n + 1)).2 < g ((n + 1) / w) ((n + 1) % w)
    · rw [mostTo_yes e]; exact ⟨rfl, Nat.le_refl _⟩
    · rw [mostTo_no e]; exact ⟨this.1, by omega⟩
theorem mostTo_le {g : Nat → Nat → Int} {w n : Nat} : (mostTo g w n).1 ≤ n := by
  induction n with
  | zero => exact Nat.le_refl _
  | succ n ih =>
    rw [mostTo]; split
    · simp
    · omega
theorem mostTo_lt {g : Nat → Nat → Int} {w n : Nat} (h : 0 < n) : (mostTo g w n).1 < n := by
  obtain ⟨m, rfl⟩ : ∃ m, n = m + 1 := ⟨n - 1, by omega⟩
  rw [mostTo]; split
  · simp
  · have := mostTo_le (g := g) (w := w) (n := m); omega
theorem mostTo_nn {g : Nat → Nat → Int} {w n : Nat} : 0 ≤ (mostTo g w n).2 := by
  induction n with
  | zero => exact Int.le_refl _
  | succ n ih =>
    rw [mostTo]; split
    · dsimp only; omega
    · exact ih
theorem mostTo_one {g : Nat → Nat → Int} {w : Nat} : (mostTo g w 1).1 = 0 := by
  rw [mostTo]; split <;> rfl
theorem mostTo_cell {g : Nat → Nat → Int} {w n : Nat} (h1 : 1 ≤ n) (h : ∀ k < n, 0 ≤ g (k / w) (k % w)) : (mostTo g w n).2 = g ((mostTo g w n).1 / w) ((mostTo g w n).1 % w) := by
  obtain ⟨m, rfl⟩ : ∃ m, n = m + 1 := ⟨n - 1, by omega⟩
  exact (mostTo_at h).1
/-- The cell at a place in the order. -/
def cellAt (w n : Nat) : DV := spotD (n % w : Nat) (n / w : Nat)
theorem cellAt_eq {w n : Nat} : cellAt w n = spotD (n % w : Nat) (n / w : Nat) := rfl
theorem cellAt_zero {w : Nat} : cellAt w 0 = spotD 0 0 := by unfold cellAt; simp
abbrev mostA (s : SheetM) (g : Nat → Nat → Int) : Nat × Int := mostTo g s.w.toNat (s.w.toNat * s.h.toNat)
noncomputable def mostX (s : SheetM) (g : Nat → Nat → Int) : Int := if validS s ∧ (mostA s g).2 ≠ 0 then ((mostA s g).1 % s.w.toNat : Nat) else 0
noncomputable def mostY (s : SheetM) (g : Nat → Nat → Int) : Int := if validS s ∧ (mostA s g).2 ≠ 0 then ((mostA s g).1 / s.w.toNat : Nat) else 0
noncomputable def mostN (s : SheetM) (g : Nat → Nat → Int) : Int := if validS s then (mostA s g).2 else 0
noncomputable def mostC (s : SheetM) (g : Nat → Nat → Int) : Int := if validS s then (if (mostA s g).2 = 0 then 6 else 0) else 1
noncomputable def mostV (s : SheetM) (g : Nat → Nat → Int) : AV := .tup [.agg shSpot (spotD (mostX s g) (mostY s g)), .int .i64 (mostN s g), .int .i64 (mostC s g)]
theorem mostV_bad {s g} (h : ¬ validS s) : mostV s g = .tup [.agg shSpot (spotD 0 0), .int .i64 0, .int .i64 1] := by
  simp [mostV, mostX, mostY, mostN, mostC, h]
theorem mostV_none {s g} (h : validS s) (h0 : (mostA s g).2 = 0) : mostV s g = .tup [.agg shSpot (spotD 0 0), .int .i64 0, .int .i64 6] := by
  simp [mostV, mostX, mostY, mostN, mostC, h, h0]
theorem mostV_some {s g} (h : validS s) (h0 : (mostA s g).2 ≠ 0) : mostV s g = .tup [.agg shSpot (cellAt s.w.toNat (mostA s g).1), .int .i64 (mostA s g).2, .int .i64 0] := by
  simp [mostV, mostX, mostY, mostN, mostC, h, h0, cellAt]
def wetG (s : SheetM) (y x : Nat) : Int := s.wet y x
def darkG (s : SheetM) (y x : Nat) : Int := s.dye y x 0 + s.dye y x 1 + s.dye y x 2
theorem wetG_eq {s : SheetM} {x y : Int} : wetM s x y = wetG s y.toNat x.toNat := rfl
theorem darkG_eq {s : SheetM} {x y : Int} : darkM s x y = darkG s y.toNat x.toNat := rfl
theorem wet_nn {s : SheetM} (hv : validS s) {x y : Nat} (hx : x < 8) (hy : y < 8) : 0 ≤ wetG s y x := by
  have := (hv.2.2 y hy x hx).2.1.1
  unfold wetM at this
  simpa [wetG] using this
/-- Sheets that read alike. -/
structure sameS (a b : SheetM) : Prop where
  w : a.w = b.w
  h : a.h = b.h
  wet : ∀ y < 8, ∀ x < 8, a.wet y x = b.wet y x
  dye : ∀ y < 8, ∀ x < 8, ∀ k < 3, a.dye y x k = b.dye y x k
  wax : ∀ y < 8, a.wax y = b.wax y
theorem sameS.refl (a : SheetM) : sameS a a := ⟨rfl, rfl, fun _ _ _ _ => rfl, fun _ _ _ _ _ _ => rfl, fun _ _ => rfl⟩
theorem upTo_ne {α : Type} {f : Nat → α} {d : α} {n k : Nat} (h : k < n) : upTo f d n k = f k := by simp [upTo, h]
noncomputable def dryS (s : SheetM) : SheetM := if validS s then { s with wet := fun _ _ => 0 } else zeroSheet
noncomputable def dryN (s : SheetM) : Int := if validS s then sumAll s.wet else 0
noncomputable def okC (s : SheetM) : Int := if validS s then 0 else 1
noncomputable def dryAllV (s : SheetM) : AV := .tup [.agg shSheet (sheetD (dryS s)), .int .i64 (dryN s), .int .i64 (okC s)]
theorem dryAllV_ok {s} (h : validS s) : dryAllV s = .tup [.agg shSheet (sheetD { s with wet := fun _ _ => 0 }), .int .i64 (sumAll s.wet), .int .i64 0] := by simp [dryAllV, dryS, dryN, okC, h]
theorem dryAllV_bad {s} (h : ¬ validS s) : dryAllV s = .tup [.agg shSheet (sheetD zeroSheet), .int .i64 0, .int .i64 1] := by simp [dryAllV, dryS, dryN, okC, h]
theorem wet_bd {s : SheetM} (hs : s.Ok) {n : Nat} : -32768 * (n : Int) ≤ sumCells s s.wet n ∧ sumCells s s.wet n ≤ 32768 * (n : Int) :=
  sumTo_le (f := fun m => s.wet (m / s.w.toNat) (m % s.w.toNat)) (n := n) (a := -32768) (b := 32768) (fun m _ => by have := hs.wet (m / s.w.toNat) (m % s.w.toNat); omega)
/-- The wax of a row with a cell's wax taken away, or put there. -/
def bitU (x : Int) : Int := IntKind.u8.wrap (1 * 2 ^ (min x.toNat 8))
def offU (a x : Int) : Int := IntKind.u8.wrap (BitVec.ofInt 8 a &&& ~~~ BitVec.ofInt 8 (bitU x)).toNat
def onU (a x : Int) : Int := IntKind.u8.wrap (BitVec.ofInt 8 a ||| BitVec.ofInt 8 (bitU x)).toNat
def waxM (s : SheetM) (x y : Int) (on : Bool) : SheetM :=
  { s with wax := u1 s.wax y.toNat (if on then onU (offU (s.wax y.toNat) x) x else offU (s.wax y.toNat) x) }
/-- A cell that is copied from another sheet. -/
def copyM (o : SheetM) (x y : Int) (s : SheetM) (a b : Int) : SheetM :=
  { o with wet := u2 o.wet y.toNat x.toNat (s.wet b.toNat a.toNat), dye := u2 o.dye y.toNat x.toNat (s.dye b.toNat a.toNat),
           wax := if waxP s a b then u1 o.wax y.toNat (onU (o.wax y.toNat) x) else o.wax }
end Ink
