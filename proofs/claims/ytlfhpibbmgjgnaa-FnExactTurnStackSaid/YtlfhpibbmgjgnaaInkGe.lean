/- Contracts of functions of the program, by the texts that it imports. No conditions. -/
import Derived.Test.YtlfhpibbmgjgnaaInkGd
import Derived.ProofKit
set_option linter.unusedVariables false
set_option linter.unusedSimpArgs false
/- Contracts at any heap, out of contracts at a small one; the data of this program. No conditions. -/
namespace Ink
open Go

/-! ### From a small heap to every heap -/
theorem ACall.frame0 {P : Program} {f : FuncId} {args : List AV} {v : AV} {N : Heap} (h : ACall P [] f args [] v N) (hs : inScopes 0 args) {H : Heap} :
    ACall P [] f (rens (kap [] 0 H.length) args) H (ren (kap [] 0 H.length) v) (H ++ N.map (renB (kap [] 0 H.length))) :=
  ACall.frame (Hm := []) (Hm' := []) h rfl [] rfl List.nodup_nil (fun i B hi => by simp at hi) hs (fun B hB => by simp at hB) (fun i hi => by simp at hi) (fun B hB => by simp at hB) rfl

theorem ACall.frame1 {P : Program} {W : List Nat} {f : FuncId} {args : List AV} {v : AV} {B B' : Blk} {N : Heap} (h : ACall P W f args [B] v (B' :: N)) {H : Heap} {b : Nat} (hb : H[b]? = some B) (hr : ∀ κ, renB κ B = B)
    (hr' : ∀ κ, renB κ B' = B') (hs : inScopes 1 args) (hsB : inScopeB 1 B) (hW : ∀ i ∈ W, i = 0) (hw : W = [] ∨ B.wr = true) (hl : B.lv = true) (hww : B'.wr = B.wr) :
    ACall P (W.map fun _ => b) f (rens (kap [b] 1 H.length) args) H (ren (kap [b] 1 H.length) v) (H.set b B' ++ N.map (renB (kap [b] 1 H.length))) := by
  have := ACall.frame (Hm := [B]) (Hm' := [B']) (N := N) h rfl (H := H) [b] rfl (by simp) (fun i C hi => by
    cases i with
    | zero => simp at hi; subst hi; simp [hr, hb]
    | succ i => simp at hi) hs (fun C hC => by simp at hC; subst hC; exact hsB) (fun i hi => by
    have := hW i hi
    subst this
    refine ⟨by simp, fun C hC => ?_⟩
    simp at hC
    subst hC
    rcases hw with rfl | hw
    · simp at hi
    · exact hw) (fun C hC => by simp at hC; subst hC; exact hl) (by simp [hww])
  have e1 : (W.map fun i => [b].getD i 0) = W.map fun _ => b := List.map_congr_left fun i hi => by rw [hW i hi]; rfl
  rw [e1] at this
  simp only [setAll, hr', List.length_cons, List.length_nil, Nat.zero_add] at this
  have e2 : kap [b] 1 H.length 0 = b := by simp [kap]
  rw [e2] at this
  exact this

theorem set_same {H : Heap} {b : Nat} {B : Blk} (h : H[b]? = some B) : H.set b B = H := by
  apply List.ext_getElem?
  intro j
  by_cases hj : b = j
  · subst hj; rw [List.getElem?_set_self (get_lt h), h]
  · rw [List.getElem?_set_ne hj]

theorem acall_of {P : Program} {n : Nat} {W W' : List Nat} {f : FuncId} {args : List AV} {H H' : Heap} {v : AV} {K : AV → Heap → Prop} (h : ACall P W' f args H v H') (hW : ∀ i ∈ W', may n W i) (hk : K v H') : acall P n W f args H K :=
  ⟨W', v, H', h, fun i hi _ => hW i hi, hk⟩
theorem acall_pure {P : Program} {n : Nat} {W : List Nat} {f : FuncId} {args : List AV} {H H' : Heap} {v : AV} {K : AV → Heap → Prop} (h : ACall P [] f args H v H') (hk : K v H') : acall P n W f args H K :=
  ⟨[], v, H', h, fun i hi _ => by simp at hi, hk⟩
/-! ### Arrays of whole numbers -/
def a1 (k : IntKind) (f : Nat → Int) : DV := .arr fun i => .int k (f i)
def a2 (k : IntKind) (f : Nat → Nat → Int) : DV := .arr fun i => a1 k (f i)
def a3 (k : IntKind) (f : Nat → Nat → Nat → Int) : DV := .arr fun i => a2 k (f i)
def u1 {α : Type} (f : Nat → α) (i : Nat) (v : α) : Nat → α := fun j => if j = i then v else f j
def u2 {α : Type} (f : Nat → Nat → α) (i j : Nat) (v : α) : Nat → Nat → α := u1 f i (u1 (f i) j v)
def u3 {α : Type} (f : Nat → Nat → Nat → α) (i j k : Nat) (v : α) : Nat → Nat → Nat → α := u1 f i (u2 (f i) j k v)
section
variable {k : IntKind} {f : Nat → Int} {g : Nat → Nat → Int} {h : Nat → Nat → Nat → Int} {i j l : Nat} {v : Int} {p : List Nat}
theorem z0f : (a1 k f).get (i :: p) = (DV.int k (f i)).get p := by unfold a1; rw [DV.get]
theorem z0h : (a2 k g).get (i :: p) = (a1 k (g i)).get p := by unfold a2; rw [DV.get]
theorem z0j : (a3 k h).get (i :: p) = (a2 k (h i)).get p := by unfold a3; rw [DV.get]
theorem z0a : (a1 k f).set [i] (.int k v) = a1 k (u1 f i v) := by
  unfold a1; rw [DV.set]; congr 1; funext j; unfold u1; split <;> simp [DV.set]
theorem z0c : (a2 k g).set [i] (a1 k f) = a2 k (u1 g i f) := by
  unfold a2; rw [DV.set]; congr 1; funext j; unfold u1; split <;> simp [DV.set, a1]
theorem z0b : (a2 k g).set [i, j] (.int k v) = a2 k (u2 g i j v) := by
  have := z0a (k := k) (f := g i) (i := j) (v := v)
  unfold a2; rw [DV.set]; congr 1; funext m; unfold u2 u1; split
  · rw [this]; rfl
  · rfl
theorem z0k : (a3 k h).set [i] (a2 k g) = a3 k (u1 h i g) := by
  unfold a3; rw [DV.set]; congr 1; funext j; unfold u1; split <;> simp [DV.set, a2]
theorem z0d : (a3 k h).set [i, j] (a1 k f) = a3 k (u2 h i j f) := by
  have := z0c (k := k) (g := h i) (i := j) (f := f)
  unfold a3; rw [DV.set]; congr 1; funext m; unfold u2 u1; split
  · rw [this]; rfl
  · rfl
theorem z0e : (a3 k h).set [i, j, l] (.int k v) = a3 k (u3 h i j l v) := by
  have := z0b (k := k) (g := h i) (i := j) (j := l) (v := v)
  unfold a3; rw [DV.set]; congr 1; funext m; unfold u3 u1; split
  · rw [this]
  · rfl
theorem z0g {m : Nat} : (Sh.arr m (.int k)).zero = a1 k fun _ => 0 := rfl
theorem z0i {m m' : Nat} : (Sh.arr m (.arr m' (.int k))).zero = a2 k fun _ _ => 0 := rfl
theorem z0l {m m' m'' : Nat} : (Sh.arr m (.arr m' (.arr m'' (.int k)))).zero = a3 k fun _ _ _ => 0 := rfl
theorem zho {m : Nat} {f g : Nat → Int} : eqD (.arr m (.int k)) (a1 k f) (a1 k g) = (List.range m).all fun i => f i == g i := by unfold a1; simp only [eqD]
end

/-! ### Spots, sheets, folds, brushes, pictures -/
def shSpot : Sh := .cons (.int .i8) (.cons (.int .i8) .unit)
def shSheet : Sh := .cons (.int .i8) (.cons (.int .i8) (.cons (.arr 8 (.arr 8 (.int .i16))) (.cons (.arr 8 (.arr 8 (.arr 3 (.int .i16)))) (.cons (.arr 8 (.int .u8)) .unit))))
def shPic : Sh := .cons (.int .i8) (.cons (.int .i8) (.cons (.arr 8 (.arr 8 (.int .u8))) .unit))

def spotD (x y : Int) : DV := .cons (.int .i8 x) (.cons (.int .i8 y) .unit)
structure SheetM where
  w : Int
  h : Int
  wet : Nat → Nat → Int
  dye : Nat → Nat → Nat → Int
  wax : Nat → Int
def sheetD (s : SheetM) : DV := .cons (.int .i8 s.w) (.cons (.int .i8 s.h) (.cons (a2 .i16 s.wet) (.cons (a3 .i16 s.dye) (.cons (a1 .u8 s.wax) .unit))))
structure FoldM where
  axis : Int
  down : Bool
  press : Int
structure BrushM where
  dye : Nat → Int
  water : Int
  share : Int
section
variable {x y v : Int} {s : SheetM} {f : FoldM} {b : BrushM} {p : List Nat} {i j l : Nat} {g : Nat → Nat → Int} {h : Nat → Nat → Nat → Int} {q : Nat → Int} {t : Bool}
theorem z5t : shSpot.fldS 0 = some (.int .i8) := rfl
theorem z5u : shSpot.fldS 1 = some (.int .i8) := rfl
theorem z5r : shSpot.fld 0 = some (.int .i8) := rfl
theorem z5s : shSpot.fld 1 = some (.int .i8) := rfl
theorem z5x {u : DV} : ofD shSpot u = .agg shSpot u := rfl
theorem z5q : shSpot.agg = true := rfl
theorem z61 : shSpot.zero = spotD 0 0 := rfl
theorem z60 : shSpot.size = 2 := rfl
theorem z5v : (spotD x y).get (0 :: p) = (DV.int .i8 x).get p := by unfold spotD; rw [DV.get]
theorem z5w : (spotD x y).get (1 :: p) = (DV.int .i8 y).get p := by unfold spotD; rw [DV.get, DV.get]
theorem z5y : (spotD x y).set [0] (.int .i8 v) = spotD v y := by unfold spotD; rw [DV.set, z09]
theorem z5z : (spotD x y).set [1] (.int .i8 v) = spotD x v := by unfold spotD; rw [DV.set, DV.set, z09]
theorem z5p : Has shSpot (spotD x y) := ⟨rfl, rfl, trivial⟩
theorem z54 : shSheet.fldS 0 = some (.int .i8) := rfl
theorem z55 : shSheet.fldS 1 = some (.int .i8) := rfl
theorem z56 : shSheet.fldS 2 = some (.arr 8 (.arr 8 (.int .i16))) := rfl
theorem z57 : shSheet.fldS 3 = some (.arr 8 (.arr 8 (.arr 3 (.int .i16)))) := rfl
theorem z58 : shSheet.fldS 4 = some (.arr 8 (.int .u8)) := rfl
theorem z52 : shSheet.fld 0 = some (.int .i8) := rfl
theorem z53 : shSheet.fld 1 = some (.int .i8) := rfl
theorem z5e {u : DV} : ofD shSheet u = .agg shSheet u := rfl
theorem z51 : shSheet.agg = true := rfl
def zeroSheet : SheetM := ⟨0, 0, fun _ _ => 0, fun _ _ _ => 0, fun _ => 0⟩
theorem z5o : shSheet.zero = sheetD zeroSheet := rfl
theorem z59 : (sheetD s).get [0] = .int .i8 s.w := by simp only [sheetD, DV.get]
theorem z5a : (sheetD s).get [1] = .int .i8 s.h := by simp only [sheetD, DV.get]
theorem z5b : (sheetD s).get (2 :: p) = (a2 .i16 s.wet).get p := by simp only [sheetD, DV.get]
theorem z5c : (sheetD s).get (3 :: p) = (a3 .i16 s.dye).get p := by simp only [sheetD, DV.get]
theorem z5d : (sheetD s).get (4 :: p) = (a1 .u8 s.wax).get p := by simp only [sheetD, DV.get]
theorem z5f : (sheetD s).set [0] (.int .i8 v) = sheetD { s with w := v } := by simp only [sheetD, DV.set, z09]
theorem z5g : (sheetD s).set [1] (.int .i8 v) = sheetD { s with h := v } := by simp only [sheetD, DV.set, z09]
theorem z5h : (sheetD s).set [2] (a2 .i16 g) = sheetD { s with wet := g } := by simp only [sheetD, DV.set, z09]
theorem z5i : (sheetD s).set [2, i, j] (.int .i16 v) = sheetD { s with wet := u2 s.wet i j v } := by
  have := z0b (k := .i16) (g := s.wet) (i := i) (j := j) (v := v)
  simp only [sheetD, DV.set, this]
theorem z5j : (sheetD s).set [3] (a3 .i16 h) = sheetD { s with dye := h } := by simp only [sheetD, DV.set, z09]
theorem z5k : (sheetD s).set [3, i, j] (a1 .i16 q) = sheetD { s with dye := u2 s.dye i j q } := by
  have := z0d (k := .i16) (h := s.dye) (i := i) (j := j) (f := q)
  simp only [sheetD, DV.set, this]
theorem z5l : (sheetD s).set [3, i, j, l] (.int .i16 v) = sheetD { s with dye := u3 s.dye i j l v } := by
  have := z0e (k := .i16) (h := s.dye) (i := i) (j := j) (l := l) (v := v)
  simp only [sheetD, DV.set, this]
theorem z5m : (sheetD s).set [4] (a1 .u8 q) = sheetD { s with wax := q } := by simp only [sheetD, DV.set, z09]
theorem z5n : (sheetD s).set [4, i] (.int .u8 v) = sheetD { s with wax := u1 s.wax i v } := by
  have := z0a (k := .u8) (f := s.wax) (i := i) (v := v)
  simp only [sheetD, DV.set, this]
theorem z1e {C : Ctx} {op : BinOp} {t : TypeId} {x y z w : Int} {L : AV → Prop} : abin C op t (.agg shSpot (spotD x y)) (.agg shSpot (spotD z w)) L =
    (C.ty t = some shSpot ∧ C.eq t = true ∧ (if op = .eql then L (.bool (x == z && y == w)) else op = .neq ∧ L (.bool (!(x == z && y == w))))) := by
  unfold shSpot spotD abin; simp [shSpot]
end
end Ink
/- Ends of functions whose result holds no pointer; lists of spots. No conditions. -/
namespace Ink
open Go

mutual
def plain : AV → Bool
  | .int _ _ => true
  | .bool _ => true
  | .str _ => true
  | .agg _ _ => true
  | .tup l => plains l
  | .nils => true
  | .wz => true
  | .nilp => true
  | _ => false
def plains : List AV → Bool
  | [] => true
  | a :: l => plain a && plains l
end
mutual
theorem plain_ren {σ : Nat → Nat} {m : Nat} : ∀ {v : AV}, plain v = true → ren σ v = v ∧ inScope m v
  | .int _ _, _ => ⟨by unfold ren; rfl, trivial⟩
  | .bool _, _ => ⟨by unfold ren; rfl, trivial⟩
  | .str _, _ => ⟨by unfold ren; rfl, trivial⟩
  | .agg _ _, _ => ⟨by unfold ren; rfl, trivial⟩
  | .nils, _ => ⟨by unfold ren; rfl, trivial⟩
  | .wz, _ => ⟨by unfold ren; rfl, trivial⟩
  | .nilp, _ => ⟨by unfold ren; rfl, trivial⟩
  | .tup l, h => by
    have := plains_ren (σ := σ) (m := m) (l := l) (by unfold plain at h; exact h)
    exact ⟨by unfold ren; rw [this.1], this.2⟩
theorem plains_ren {σ : Nat → Nat} {m : Nat} : ∀ {l : List AV}, plains l = true → rens σ l = l ∧ inScopes m l
  | [], _ => ⟨by unfold rens; rfl, trivial⟩
  | a :: l, h => by
    simp only [plains, Bool.and_eq_true] at h
    have h1 := plain_ren (σ := σ) (m := m) h.1
    have h2 := plains_ren (σ := σ) (m := m) h.2
    exact ⟨by unfold rens; rw [h1.1, h2.1], h1.2, h2.2⟩
end

def noRef : Blk → Bool
  | .ref _ => false
  | .dead _ => false
  | _ => true
def noRefs (A : Heap) : Bool := A.all noRef

theorem headW_of {A : Heap} {n : Nat} (h : noRefs A = true) : headW n A := fun i x hi => by
  have := List.all_eq_true.1 h _ (List.mem_of_getElem? hi)
  simp [noRef] at this

theorem fin_plain {A L : Heap} {v v' : AV} {n : Nat} {H : Heap} (hH : H = A ++ L) (hn : A.length = n) (hA : noRefs A = true) (hp : plain v' = true) (hv : v = v') : fin n v H v' A := by
  subst hH; subst hn; subst hv
  obtain ⟨h1, h2⟩ := plain_ren (σ := sg A.length []) (m := A.length) hp
  exact fin_drop (headW_of hA) h2 h1
theorem fin_0 {L : Heap} {v v' : AV} (hp : plain v' = true) (hv : v = v') : fin 0 v L v' [] := fin_plain (A := []) rfl rfl rfl hp hv
theorem fin_1 {B : Blk} {L : Heap} {v v' : AV} (hB : noRef B = true) (hp : plain v' = true) (hv : v = v') : fin 1 v (B :: L) v' [B] := fin_plain (A := [B]) rfl rfl (by simp [noRefs, hB]) hp hv
theorem fin_2 {B C : Blk} {L : Heap} {v v' : AV} (hB : noRef B = true) (hC : noRef C = true) (hp : plain v' = true) (hv : v = v') : fin 2 v (B :: C :: L) v' [B, C] := fin_plain (A := [B, C]) rfl rfl (by simp [noRefs, hB, hC]) hp hv

theorem weak_of {n : Nat} {E E' : Env} {H : Heap} (A L : Heap) (τ : List Nat) (L' : Heap) (hH : H = A ++ L) (hn : A.length = n) (hA : noRefs A = true) (hnd : τ.Nodup)
    (hT : tailW (sg n τ) (A ++ L').length L τ L') (hE : envW (sg n τ) (A ++ L').length E E') : WeakS n E H E' (A ++ L') :=
  ⟨sg n τ, ⟨A, L, L', τ, hH, hn, rfl, hnd, headW_of hA, rfl, hT⟩, hE⟩
theorem fin_of {n : Nat} {v v' : AV} {H : Heap} (A L : Heap) (τ : List Nat) (L' : Heap) (hH : H = A ++ L) (hn : A.length = n) (hA : noRefs A = true) (hnd : τ.Nodup)
    (hT : tailW (sg n τ) (A ++ L').length L τ L') (hs : inScope (A ++ L').length v') (hv : v = ren (sg n τ) v') : fin n v H v' (A ++ L') :=
  ⟨sg n τ, ⟨A, L, L', τ, hH, hn, rfl, hnd, headW_of hA, rfl, hT⟩, hs, hv⟩

section
variable {n m : Nat} {L : Heap} {σ : Nat → Nat} {E : Env}
theorem zb2 : tailW σ m L [] [] = True := by unfold tailW; rfl
theorem zb1 {k τ B L'} : tailW σ m L (k :: τ) (B :: L') = (onSome L[k]? (BlkW σ m B) ∧ tailW σ m L τ L') := by rw [tailW]
theorem za3 {s v B} : BlkW σ m (.data s v) B = (B = .data s v) := by unfold BlkW; rfl
theorem zaw {wr e l wr' e' l'} : BlkW σ m (.seq wr e l) (.seq wr' e' l') = (e' = e ∧ l <+: l' ∧ (wr = true → wr' = true)) := by
  simp only [BlkW, eq_iff_iff]
  constructor
  · rintro ⟨a, b, h, h2, h3⟩; cases h; exact ⟨rfl, h2, h3⟩
  · rintro ⟨rfl, h2, h3⟩; exact ⟨_, _, rfl, h2, h3⟩
theorem zae {x B} : BlkW σ m (.ref x) B = (inScope m x ∧ B = .ref (ren σ x)) := by unfold BlkW; rfl
theorem za5 : envW σ m E [] = True := by unfold envW; rfl
theorem za4 {t v r} : envW σ m E ((t, v) :: r) = ((inScope m v ∧ look E t = ren σ v) ∧ envW σ m E r) := by rw [envW]
theorem zaq {b p τ} : inScope m (.ptr b p τ) = (b < m) := by unfold inScope; rfl
theorem zar {b} : inScope m (.rptr b) = (b < m) := by unfold inScope; rfl
theorem zat {b lo l c} : inScope m (.slk b lo l c) = (b < m) := by unfold inScope; rfl
theorem zas {b lo l} : inScope m (.slc b lo l) = (b < m) := by unfold inScope; rfl
theorem zam {k i} : inScope m (.int k i) = True := by unfold inScope; rfl
theorem zaj {b} : inScope m (.bool b) = True := by unfold inScope; rfl
theorem zau {b} : inScope m (.str b) = True := by unfold inScope; rfl
theorem zai {τ v} : inScope m (.agg τ v) = True := by unfold inScope; rfl
theorem zan : inScope m .junk = True := by unfold inScope; rfl
theorem zap : inScope m .nils = True := by unfold inScope; rfl
theorem zal {f c d} : inScope m (.fn f c d) = (inScopes m c ∧ inScopes m d) := by rw [inScope]
theorem zav {l} : inScope m (.tup l) = inScopes m l := by rw [inScope]
theorem zao : inScopes m [] = True := by unfold inScopes; rfl
theorem zak {a l} : inScopes m (a :: l) = (inScope m a ∧ inScopes m l) := by rw [inScopes]
theorem zab {b p τ} : ren σ (.ptr b p τ) = .ptr (σ b) p τ := by unfold ren; rfl
theorem zag {b} : ren σ (.rptr b) = .rptr (σ b) := by unfold ren; rfl
theorem zaz {b lo l c} : ren σ (.slk b lo l c) = .slk (σ b) lo l c := by unfold ren; rfl
theorem zay {b lo l} : ren σ (.slc b lo l) = .slc (σ b) lo l := by unfold ren; rfl
theorem za7 {k i} : ren σ (.int k i) = .int k i := by unfold ren; rfl
theorem za2 {b} : ren σ (.bool b) = .bool b := by unfold ren; rfl
theorem zb0 {b} : ren σ (.str b) = .str b := by unfold ren; rfl
theorem za1 {τ v} : ren σ (.agg τ v) = .agg τ v := by unfold ren; rfl
theorem zaa : ren σ .nils = .nils := by unfold ren; rfl
theorem za8 : ren σ .junk = .junk := by unfold ren; rfl
theorem za6 {f c d} : ren σ (.fn f c d) = .fn f (rens σ c) (rens σ d) := by rw [ren]
theorem zb3 {l} : ren σ (.tup l) = .tup (rens σ l) := by rw [ren]
theorem zaf : rens σ [] = [] := by unfold rens; rfl
theorem zac {a l} : rens σ (a :: l) = ren σ a :: rens σ l := by rw [rens]
theorem zax {τ i} : sg n τ i = if i < n then i else n + τ.getD (i - n) 0 := rfl
theorem za9 {κ i} : kap κ m n i = if i < m then κ.getD i 0 else n + (i - m) := rfl
theorem zad {s v} : renB σ (.data s v) = .data s v := rfl
theorem zah {wr e l} : renB σ (.seq wr e l) = .seq wr e l := rfl
end
end Ink
/- The loop rule as a lemma, and small laws about whole numbers and arrays. No conditions. -/
namespace Ink
open Go
theorem aloop {C : Ctx} {n : Nat} {W : List Nat} {c : Code} {E : Env} {H : Heap} {Q : AEx → Env → Heap → Prop} {ι : Type} (p : ι → Prop) (μ : ι → Nat) (EE : ι → Env) (HH : ι → Heap) (i0 : ι) (h0 : p i0)
    (hw : WeakS n E H (EE i0) (HH i0))
    (hr : ∀ i, p i → force (EE i) fun E => force (HH i) fun H => acode C n W c E H (thenQ (fun E' H' => ∃ j, p j ∧ μ j < μ i ∧ WeakS n E' H' (EE j) (HH j)) Q)) : acode C n W (.loop c) E H Q := by
  rw [acode]
  exact ⟨ι, p, μ, EE, HH, ⟨i0, h0, hw⟩, hr⟩

def upTo {α : Type} (f : Nat → α) (d : α) (n : Nat) : Nat → α := fun j => if j < n then f j else d
theorem upTo_zero {α : Type} {f : Nat → α} {d : α} : upTo f d 0 = fun _ => d := by funext j; simp [upTo]
theorem upTo_succ {α : Type} {f : Nat → α} {d : α} {n : Nat} : u1 (upTo f d n) n (f n) = upTo f d (n + 1) := by
  funext j; unfold u1 upTo
  by_cases h : j = n
  · subst h; simp
  · rw [if_neg h]
    by_cases h2 : j < n
    · rw [if_pos h2, if_pos (by omega)]
    · rw [if_neg h2, if_neg (by omega)]
theorem wrap_i64 {a : Int} (h : -9223372036854775808 ≤ a) (h' : a < 9223372036854775808) : IntKind.i64.wrap a = a := by
  simp only [IntKind.wrap, IntKind.signed, IntKind.bits]; simp; omega
theorem acall_go {P : Program} {n : Nat} {W : List Nat} {f : FuncId} {args : List AV} {H H' : Heap} {v : AV} {K : AV → Heap → Prop} (h : ACall P [] f args H v H') (hk : force v fun v => force H' fun H' => K v H') : acall P n W f args H K :=
  acall_pure h hk
theorem qcall_go {P : Program} {f : FuncId} {args : List AV} {H : Heap} {v : AV} {K : AV → Prop} (h : ∀ N, ACall P [] f args (H ++ N) v (H ++ N)) (hk : force v fun v => K v) : qcall P f args H K := ⟨v, h, hk⟩
theorem qcall_pure {P : Program} {f : FuncId} {args : List AV} {H : Heap} {v : AV} {K : AV → Prop} (h : ∀ N, ACall P [] f args (H ++ N) v (H ++ N)) (hk : K v) : qcall P f args H K := ⟨v, h, hk⟩
theorem ACall.at0 {P : Program} {f : FuncId} {args : List AV} {v : AV} (h : ACall P [] f args [] v []) (ha : plains args = true) (hv : plain v = true) (H : Heap) : ACall P [] f args H v H := by
  have h1 := plains_ren (σ := kap [] 0 H.length) (m := 0) ha
  have h2 := plain_ren (σ := kap [] 0 H.length) (m := 0) hv
  have := ACall.frame0 h h1.2 (H := H)
  rwa [h1.1, h2.1, List.map_nil, List.append_nil] at this
theorem ACall.at1 {P : Program} {f : FuncId} {args : List AV} {v : AV} {B : Blk} (h : ACall P [] f args [B] v [B]) (hB : noRef B = true) {H : Heap} {b : Nat} (hb : H[b]? = some B) {args' : List AV} (hs : inScopes 1 args) (ha : rens (kap [b] 1 H.length) args = args') (hv : plain v = true) :
    ACall P [] f args' H v H := by
  subst ha
  have hr : ∀ κ, renB κ B = B := fun κ => by cases B <;> first | rfl | simp [noRef] at hB
  have hl : B.lv = true := by cases B <;> first | rfl | simp [noRef] at hB
  have hsc : inScopeB 1 B := by cases B <;> first | trivial | simp [noRef] at hB
  have h2 := plain_ren (σ := kap [b] 1 H.length) (m := 0) hv
  have := ACall.frame1 h hb hr hr hs hsc (fun i hi => by simp at hi) (Or.inl rfl) hl rfl
  rw [h2.1] at this
  simpa [set_same hb] using this
theorem z3a {n b : Nat} {W : List Nat} : may n W b = (n ≤ b ∨ b ∈ W) := by unfold may; rfl
theorem weak_k {n : Nat} {E E' : Env} {H H' : Heap} (τ : List Nat) (hn : n ≤ H.length) (hA : H'.take n = H.take n) (hr : noRefs (H.take n) = true) (hnd : τ.Nodup)
    (hT : tailW (sg n τ) H'.length (H.drop n) τ (H'.drop n)) (hE : envW (sg n τ) H'.length E E') : WeakS n E H E' H' := by
  have e : H.take n ++ H'.drop n = H' := by rw [← hA, List.take_append_drop]
  have := weak_of (n := n) (E := E) (E' := E') (H := H) (H.take n) (H.drop n) τ (H'.drop n) (List.take_append_drop n H).symm (by simp; omega) hr hnd (by rw [e]; exact hT) (by rw [e]; exact hE)
  rwa [e] at this
theorem fin_k {n : Nat} {v v' : AV} {H H' : Heap} (τ : List Nat) (hn : n ≤ H.length) (hA : H'.take n = H.take n) (hr : noRefs (H.take n) = true) (hnd : τ.Nodup)
    (hT : tailW (sg n τ) H'.length (H.drop n) τ (H'.drop n)) (hs : inScope H'.length v') (hv : v = ren (sg n τ) v') : fin n v H v' H' := by
  have e : H.take n ++ H'.drop n = H' := by rw [← hA, List.take_append_drop]
  have := fin_of (n := n) (v := v) (v' := v') (H := H) (H.take n) (H.drop n) τ (H'.drop n) (List.take_append_drop n H).symm (by simp; omega) hr hnd (by rw [e]; exact hT) (by rw [e]; exact hs) hv
  rwa [e] at this
theorem wrap_i16 {a : Int} (h : -32768 ≤ a) (h' : a < 32768) : IntKind.i16.wrap a = a := by
  simp only [IntKind.wrap, IntKind.signed, IntKind.bits]; simp; omega
theorem wrap_i8 {a : Int} (h : -128 ≤ a) (h' : a < 128) : IntKind.i8.wrap a = a := by
  simp only [IntKind.wrap, IntKind.signed, IntKind.bits]; simp; omega
theorem wrap_u8 {a : Int} (h : 0 ≤ a) (h' : a < 256) : IntKind.u8.wrap a = a := by
  simp only [IntKind.wrap, IntKind.signed, IntKind.bits]; simp; omega
theorem wrap_u64 {a : Int} (h : 0 ≤ a) (h' : a < 18446744073709551616) : IntKind.u64.wrap a = a := by
  simp only [IntKind.wrap, IntKind.signed, IntKind.bits]; simp; omega
theorem cast_succ {i : Nat} : ((i + 1 : Nat) : Int) = (i : Int) + 1 := by omega
theorem cast_zero : ((0 : Nat) : Int) = 0 := rfl
end Ink
/- What the program means: sheets and cells. No conditions. -/
namespace Ink
open Go
def n8 (f : Nat → Int) : Nat → Int := upTo f 0 8
def n3 (f : Nat → Int) : Nat → Int := upTo f 0 3
def n88 (f : Nat → Nat → Int) : Nat → Nat → Int := upTo (fun i => n8 (f i)) (fun _ => 0) 8
def n83 (f : Nat → Nat → Int) : Nat → Nat → Int := upTo (fun i => n3 (f i)) (fun _ => 0) 8
def n883 (f : Nat → Nat → Nat → Int) : Nat → Nat → Nat → Int := upTo (fun i => n83 (f i)) (fun _ _ => 0) 8
def nS (s : SheetM) : SheetM := ⟨s.w, s.h, n88 s.wet, n883 s.dye, n8 s.wax⟩
structure SheetM.Ok (s : SheetM) : Prop where
  w : -128 ≤ s.w ∧ s.w < 128
  h : -128 ≤ s.h ∧ s.h < 128
  wet : ∀ i j, -32768 ≤ s.wet i j ∧ s.wet i j < 32768
  dye : ∀ i j k, -32768 ≤ s.dye i j k ∧ s.dye i j k < 32768
  wax : ∀ i, 0 ≤ s.wax i ∧ s.wax i < 256
abbrev ok8 (x : Int) : Prop := -128 ≤ x ∧ x < 128
abbrev in8 (x y : Int) : Prop := (0 ≤ x ∧ x < 8) ∧ 0 ≤ y ∧ y < 8
theorem in8_of {a b : Nat} (ha : a < 8) (hb : b < 8) : in8 (a : Int) (b : Int) := by omega
def hasP (s : SheetM) (x y : Int) : Prop := 0 ≤ x ∧ x < s.w ∧ 0 ≤ y ∧ y < s.h
instance {s : SheetM} {x y : Int} : Decidable (hasP s x y) := by unfold hasP; infer_instance
def waxP (s : SheetM) (x y : Int) : Prop := IntKind.u8.wrap (BitVec.ofInt 8 ((s.wax y.toNat).fdiv (2 ^ (min x.toNat 8))) &&& BitVec.ofInt 8 1).toNat = 1
instance {s : SheetM} {x y : Int} : Decidable (waxP s x y) := by unfold waxP; infer_instance
def wetM (s : SheetM) (x y : Int) : Int := s.wet y.toNat x.toNat
def darkM (s : SheetM) (x y : Int) : Int := s.dye y.toNat x.toNat 0 + s.dye y.toNat x.toNat 1 + s.dye y.toNat x.toNat 2
def rowD (y x : Nat) : List DV := (List.range x).map fun (x : Nat) => spotD x y
def cellsTo (w y x : Nat) : List DV := ((List.range y).flatMap fun y => rowD y w) ++ rowD y x
def cellsD (w h : Nat) : List DV := cellsTo w h 0
theorem cellsTo_succ {w y x : Nat} : cellsTo w y (x + 1) = cellsTo w y x ++ [spotD x y] := by
  unfold cellsTo rowD; rw [List.range_succ, List.map_append, List.append_assoc]; rfl
theorem cellsTo_row {w y : Nat} : cellsTo w y w = cellsTo w (y + 1) 0 := by
  unfold cellsTo; rw [List.range_succ, List.flatMap_append]; simp [rowD]
theorem cellsTo_zero {w : Nat} : cellsTo w 0 0 = [] := rfl
theorem cellsTo_length {w y x : Nat} : (cellsTo w y x).length = w * y + x := by
  induction y generalizing x with
  | zero => simp [cellsTo, rowD]
  | succ y ih =>
    have : (cellsTo w (y + 1) x).length = (cellsTo w (y + 1) 0).length + x := by
      unfold cellsTo rowD; simp
    rw [this, ← cellsTo_row, ih, Nat.mul_succ]
theorem cellsTo_le {w y x : Nat} (hw : w ≤ 8) (hy : y ≤ 8) (hx : x ≤ 8) : (cellsTo w y x).length ≤ 72 := by
  rw [cellsTo_length]
  have : w * y ≤ 8 * 8 := Nat.mul_le_mul hw hy
  omega
def cellP (s : SheetM) (x y : Int) : Prop := (0 ≤ wetM s x y ∧ wetM s x y ≤ 200) ∧ (∀ k < 3, 0 ≤ s.dye y.toNat x.toNat k ∧ s.dye y.toNat x.toNat k ≤ 1000) ∧
  ((hasP s x y ∧ ¬ waxP s x y) ∨ (wetM s x y = 0 ∧ s.dye y.toNat x.toNat 0 = 0 ∧ s.dye y.toNat x.toNat 1 = 0 ∧ s.dye y.toNat x.toNat 2 = 0))
noncomputable instance {s : SheetM} {x y : Int} : Decidable (cellP s x y) := Classical.propDecidable _
def cellOk (s : SheetM) (x y : Int) : Prop := (waxP s x y → hasP s x y) ∧ cellP s x y
def validS (s : SheetM) : Prop := (1 ≤ s.w ∧ s.w ≤ 8) ∧ (1 ≤ s.h ∧ s.h ≤ 8) ∧ ∀ y < 8, ∀ x < 8, cellOk s ((x : Nat) : Int) ((y : Nat) : Int)
noncomputable instance {s : SheetM} : Decidable (validS s) := Classical.propDecidable _
noncomputable instance {s : SheetM} {x y : Int} : Decidable (cellOk s x y) := Classical.propDecidable _
theorem z0v {m : Nat} {e : Sh} : (Sh.arr m e).agg = true := rfl
theorem z0u {k : IntKind} {f g : Nat → Int} : eqD (.arr 3 (.int k)) (a1 k f) (a1 k g) = decide (f 0 = g 0 ∧ f 1 = g 1 ∧ f 2 = g 2) := by
  rw [zho, Bool.eq_iff_iff]
  simp [List.range_succ, and_assoc]
def sumTo (f : Nat → Int) : Nat → Int
  | 0 => 0
  | n + 1 => sumTo f n + f n
theorem sumTo_zero {f : Nat → Int} : sumTo f 0 = 0 := rfl
theorem sumTo_succ {f : Nat → Int} {n : Nat} : sumTo f (n + 1) = sumTo f n + f n := rfl
theorem sumTo_3 {f : Nat → Int} : sumTo f 3 = f 0 + f 1 + f 2 := by simp [sumTo]
theorem sumTo_le {f : Nat → Int} {n : Nat} {a b : Int} (h : ∀ k < n, a ≤ f k ∧ f k ≤ b) : a * n ≤ sumTo f n ∧ sumTo f n ≤ b * n := by
  induction n with
  | zero => simp [sumTo]
  | succ n ih =>
    obtain ⟨h1, h2⟩ := ih fun k hk => h k (by omega)
    obtain ⟨h3, h4⟩ := h n (by omega)
    simp only [sumTo, cast_succ, Int.mul_add, Int.mul_one]
    omega
abbrev small (s : SheetM) : Prop := (0 ≤ s.w ∧ s.w ≤ 8) ∧ 0 ≤ s.h ∧ s.h ≤ 8
theorem row_get {y w i : Nat} (h : i < w) : (rowD y w)[i]? = some (spotD i y) := by
  unfold rowD; simp [h]
theorem cells_getTo {w y i j : Nat} (hj : j < y) (hi : i < w) : (cellsTo w y 0)[w * j + i]? = some (spotD i j) := by
  induction y with
  | zero => omega
  | succ y ih =>
    rw [← cellsTo_row]
    have hl : (cellsTo w y 0).length = w * y := by rw [cellsTo_length]; omega
    have he : cellsTo w y w = cellsTo w y 0 ++ rowD y w := by unfold cellsTo; simp [rowD]
    rw [he]
    by_cases hjy : j < y
    · have : w * j + w ≤ w * y := by rw [← Nat.mul_succ]; exact Nat.mul_le_mul_left _ hjy
      rw [List.getElem?_append_left (by omega)]
      exact ih hjy
    · obtain rfl : j = y := by omega
      rw [List.getElem?_append_right (by omega), hl, Nat.add_sub_cancel_left]
      exact row_get hi
theorem cells_get {w h n : Nat} (hn : n < w * h) : (cellsD w h)[n]? = some (spotD (n % w : Nat) (n / w : Nat)) := by
  have hw : 0 < w := by
    rcases Nat.eq_zero_or_pos w with rfl | h
    · simp at hn
    · exact h
  have h1 := Nat.mod_lt n hw
  have h2 : n / w < h := (Nat.div_lt_iff_lt_mul hw).2 (by rwa [Nat.mul_comm])
  have := cells_getTo h2 h1
  rwa [Nat.div_add_mod] at this
theorem cell_in {w h n : Nat} (hn : n < w * h) : n % w < w ∧ n / w < h := by
  have hw : 0 < w := by
    rcases Nat.eq_zero_or_pos w with rfl | h
    · simp at hn
    · exact h
  exact ⟨Nat.mod_lt n hw, (Nat.div_lt_iff_lt_mul hw).2 (by rwa [Nat.mul_comm])⟩
theorem upTo_const {n : Nat} {d : Int} : upTo (fun _ => d) d n = fun _ => d := by funext j; simp [upTo]
def sumCells (s : SheetM) (g : Nat → Nat → Int) (n : Nat) : Int := sumTo (fun m => g (m / s.w.toNat) (m % s.w.toNat)) n
theorem sumCells_zero {s : SheetM} {g : Nat → Nat → Int} : sumCells s g 0 = 0 := rfl
noncomputable def codeM (s : SheetM) (r : Bool) : Int := if validS s then (if r then 0 else 2) else 1
theorem upTo_P {f : Nat → Int} {n : Nat} {p : Int → Prop} (hf : ∀ i, p (f i)) (h0 : p 0) (i : Nat) : p (upTo f 0 n i) := by
  unfold upTo; split
  · exact hf i
  · exact h0
theorem nS_Ok {s : SheetM} (h : s.Ok) : (nS s).Ok := by
  refine ⟨h.w, h.h, fun i j => ?_, fun i j k => ?_, fun i => ?_⟩
  · have e : n88 s.wet i j = if i < 8 then n8 (s.wet i) j else 0 := by unfold n88 upTo; split <;> rfl
    show -32768 ≤ n88 s.wet i j ∧ n88 s.wet i j < 32768
    rw [e]; split
    · exact upTo_P (p := fun x => -32768 ≤ x ∧ x < 32768) (h.wet i) (by omega) j
    · omega
  · have e : n883 s.dye i j k = if i < 8 then (if j < 8 then n3 (s.dye i j) k else 0) else 0 := by
      by_cases hi : i < 8 <;> by_cases hj : j < 8 <;> simp [hi, hj, n883, n83, upTo]
    show -32768 ≤ n883 s.dye i j k ∧ n883 s.dye i j k < 32768
    rw [e]; split
    · split
      · exact upTo_P (p := fun x => -32768 ≤ x ∧ x < 32768) (h.dye i j) (by omega) k
      · omega
    · omega
  · exact upTo_P (p := fun x => 0 ≤ x ∧ x < 256) h.wax (by omega) i
end Ink
/- The top of a law that answers true and takes values without pointers: what the row asks, out of a contract. No conditions. -/
namespace Ink
open Go Go.ChangeShapes Go.WideShapes Go.RowKit

def pureT (P : Program) : Nat → TypeId → Bool
  | 0, _ => false
  | k + 1, t => match P.underlying t with
    | some .bool => true
    | some (.int _) => true
    | some .string => true
    | some (.struct fs) => fs.toList.all fun f => pureT P k f.type
    | some (.array _ e) => pureT P k e
    | _ => false

theorem mapM_pure {α β : Type} {F F' : α → Option (β × List MemPlace)} : ∀ {l : List α} {xs}, (∀ a ∈ l, ∀ x, F a = some x → x.2 = [] ∧ F' a = some x) → l.mapM F = some xs → l.mapM F' = some xs ∧ xs.flatMap (·.2) = []
  | [], xs, _, h => by simp at h; subst h; simp
  | a :: l, xs, hF, h => by
    rw [List.mapM_cons] at h
    cases hq : F a with
    | none => simp [hq] at h
    | some x =>
      cases hr : l.mapM F with
      | none => simp [hq, hr] at h
      | some ys =>
        simp [hq, hr] at h
        subst h
        obtain ⟨h1, h2⟩ := hF a (by simp) x hq
        obtain ⟨h3, h4⟩ := mapM_pure (l := l) (fun b hb => hF b (by simp [hb])) hr
        rw [List.mapM_cons]
        simp [h2, h3, h1, h4]

section
variable {H : Type} {enc : TypeId × Value → H} {P : Program} {w w' : World} {base base' : Nat} {sp sp' : Nat → Bool} {hd hd' : Bool}
theorem pure_trod : ∀ {fuel k : Nat} {t : TypeId} {cs : List Value} {x : DataW H × List MemPlace}, pureT P k t = true → DataW.trod enc P w base sp hd fuel t cs = some x → x.2 = [] ∧ DataW.trod enc P w' base' sp' hd' fuel t cs = some x
  | 0, _, _, _, _, _, h => by simp [DataW.trod] at h
  | _ + 1, 0, _, _, _, hp, _ => by simp [pureT] at hp
  | fuel + 1, k + 1, t, cs, x, hp, h => by
    unfold pureT at hp
    unfold DataW.trod at h ⊢
    cases hu : P.underlying t with
    | none => rw [hu] at hp; cases hp
    | some u =>
      rw [hu] at hp
      cases u <;> first | (cases hp; done) | skip
      case bool =>
        rw [hu] at h
        dsimp only at h ⊢
        split at h
        all_goals first | (cases h; done) | skip
        all_goals (try (rename_i e1; cases e1))
        all_goals first | (cases h; exact ⟨rfl, rfl⟩) | skip
      case int q =>
        rw [hu] at h
        match cs, h with
        | [.int k' n], h =>
          dsimp only at h ⊢
          split at h
          · rename_i hc
            cases h
            exact ⟨rfl, by rw [if_pos hc]⟩
          · cases h
      case string =>
        rw [hu] at h
        match cs, h with
        | [.string s], h =>
          dsimp only at h ⊢
          split at h
          · rename_i hc
            cases h
            exact ⟨rfl, by rw [if_pos hc]⟩
          · cases h
      case struct fs =>
        rw [hu] at h
        dsimp only at h hp ⊢
        split at h
        · rename_i hc
          rw [if_pos hc]
          rw [Option.map_eq_some_iff] at h
          obtain ⟨xs, h1, rfl⟩ := h
          have hall := List.all_eq_true.1 hp
          obtain ⟨h2, h3⟩ := mapM_pure (F' := fun f => DataW.trod enc P w' base' sp' hd' fuel f.type ((cs.drop f.offset).take (P.cellsOf f.type))) (fun f hf x hx => pure_trod (hall f hf) hx) h1
          exact ⟨h3, by rw [h2]; rfl⟩
        · cases h
      case array n e =>
        rw [hu] at h
        dsimp only at h hp ⊢
        split at h
        · rename_i hc
          rw [if_pos hc]
          rw [Option.map_eq_some_iff] at h
          obtain ⟨xs, h1, rfl⟩ := h
          obtain ⟨h2, h3⟩ := mapM_pure (F' := fun i => DataW.trod enc P w' base' sp' hd' fuel e ((cs.drop (i * P.cellsOf e)).take (P.cellsOf e))) (fun f hf x hx => pure_trod hp hx) h1
          exact ⟨h3, by rw [h2]; rfl⟩
        · cases h
end

/-! ### Arguments that are rows of whole numbers and bools -/
/-! ### Sheets as arguments -/
theorem flatMap_ext {α : Type} {f g : Nat → List α} {n : Nat} (h : ∀ i < n, f i = g i) : (List.range n).flatMap f = (List.range n).flatMap g := by
  rw [List.flatMap_def, List.flatMap_def, List.map_congr_left fun i hi => h i (by simpa using hi)]
theorem zhn {s : SheetM} : Has shSheet (sheetD s) := ⟨rfl, rfl, fun _ _ => fun _ _ => rfl, fun _ _ => fun _ _ => fun _ _ => rfl, fun _ _ => rfl, trivial⟩
end Ink
/- More of what the program means: colours, askings. No conditions. -/
namespace Ink
open Go
def maxM (a b : Int) : Int := if b < a then a else b
end Ink
/- Arguments of laws: spots, folds, brushes and whole numbers that come from outside. No conditions. -/
namespace Ink
open Go Go.ChangeShapes Go.WideShapes Go.RowKit
section
variable {H : Type} {enc : TypeId × Value → H} {P : Program} {w : World} {base : Nat} {sp : Nat → Bool} {hd : Bool}
theorem trod_len : ∀ {ts : List TypeId} {vs : List Value} {ds : List (DataW H)} {ps : List MemPlace}, DataW.TrodAll enc P w base sp hd ts vs ds ps → vs.length = ts.length ∧ ds.length = ts.length
  | [], [], [], _, _ => ⟨rfl, rfl⟩
  | _ :: ts, _ :: vs, _ :: ds, _, h => by
    obtain ⟨p, q, _, h1, _⟩ := h
    have := trod_len h1
    simp only [List.length_cons, this.1, this.2, and_self]
  | [], _ :: _, _, _, h => h.elim
  | [], [], _ :: _, _, h => h.elim
  | _ :: _, [], _, _, h => h.elim
  | _ :: _, _ :: _, [], _, h => h.elim
end
section
variable {α : Type} {l : List α} {A : Array α}
theorem list1 (h : l.length = 1) : ∃ a, l = [a] := by
  match l, h with | [a], _ => exact ⟨a, rfl⟩
theorem arr1 (h : A.toList.length = 1) : ∃ a, A = #[a] := by
  obtain ⟨a, h⟩ := list1 h
  exact ⟨a, Array.toList_inj.1 h⟩
end
theorem wf8 {n : Int} (h : (Lit.int .i8 n).wf = true) : ok8 n := by
  simp [Lit.wf, IntKind.min, IntKind.max, IntKind.signed, IntKind.bits] at h; omega
abbrev ok16 (x : Int) : Prop := -32768 ≤ x ∧ x < 32768
theorem wf16 {n : Int} (h : (Lit.int .i16 n).wf = true) : ok16 n := by
  simp [Lit.wf, IntKind.min, IntKind.max, IntKind.signed, IntKind.bits] at h; omega
structure FoldM.Ok (f : FoldM) : Prop where
  axis : -128 ≤ f.axis ∧ f.axis < 128
  press : -128 ≤ f.press ∧ f.press < 128
structure BrushM.Ok (b : BrushM) : Prop where
  dye : ∀ i, -32768 ≤ b.dye i ∧ b.dye i < 32768
  water : -32768 ≤ b.water ∧ b.water < 32768
  share : -128 ≤ b.share ∧ b.share < 128
section
variable {P : Program} {w : World} {r : Reach} {base : Nat} {t : TypeId} {v : Value}
end
end Ink
/- What the program means: the most of all cells, sheets that are equal, and sheets that are changed. No conditions. -/
namespace Ink
open Go
structure sameS (a b : SheetM) : Prop where
  w : a.w = b.w
  h : a.h = b.h
  wet : ∀ y < 8, ∀ x < 8, a.wet y x = b.wet y x
  dye : ∀ y < 8, ∀ x < 8, ∀ k < 3, a.dye y x k = b.dye y x k
  wax : ∀ y < 8, a.wax y = b.wax y
theorem sameS.refl (a : SheetM) : sameS a a := ⟨rfl, rfl, fun _ _ _ _ => rfl, fun _ _ _ _ _ _ => rfl, fun _ _ => rfl⟩
noncomputable def okC (s : SheetM) : Int := if validS s then 0 else 1
def bitU (x : Int) : Int := IntKind.u8.wrap (1 * 2 ^ (min x.toNat 8))
def onU (a x : Int) : Int := IntKind.u8.wrap (BitVec.ofInt 8 a ||| BitVec.ofInt 8 (bitU x)).toNat
def copyM (o : SheetM) (x y : Int) (s : SheetM) (a b : Int) : SheetM :=
  { o with wet := u2 o.wet y.toNat x.toNat (s.wet b.toNat a.toNat), dye := u2 o.dye y.toNat x.toNat (s.dye b.toNat a.toNat),
           wax := if waxP s a b then u1 o.wax y.toNat (onU (o.wax y.toNat) x) else o.wax }
end Ink
