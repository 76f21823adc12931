/- Contracts of functions of the program, by the texts that it imports. No conditions. -/
import Derived.Test.YtlfhpibbmgjgnaaInkGb
set_option linter.unusedVariables false
set_option linter.unusedSimpArgs false
/- The evaluator: one operation. What it asks is said as a proposition over plain data; 'aop_sound' says that this is enough. No conditions. -/
namespace Ink
open Go

def onB (a : AV) (k : Bool → Prop) : Prop := match a with | .bool b => k b | _ => False
def onI (a : AV) (k : IntKind → Int → Prop) : Prop := match a with | .int j n => k j n | _ => False
def onD (a : AV) (k : Sh → DV → Prop) : Prop := match a with | .int j n => k (.int j) (.int j n) | .bool b => k .bool (.bool b) | .str s => k .str (.str s) | .agg τ v => k τ v | _ => False
def onAddr (a : AV) (k : Nat → List Nat → Sh → Prop) (r : Nat → Prop) : Prop := match a with | .ptr b p τ => k b p τ | .rptr b => r b | _ => False
def onPS (a : AV) (k : Nat → List Nat → Sh → Prop) (r : Nat → Nat → Nat → Prop) : Prop := match a with | .ptr b p τ => k b p τ | .slc b lo len => r b lo len | _ => False
def onPX (a : AV) (k : Nat → List Nat → Sh → Prop) (r : Nat → Nat → Nat → Prop) (q : Nat → Nat → Prop) : Prop := match a with | .ptr b p τ => k b p τ | .slc b lo len => r b lo len | .wsl b len => q b len | _ => False
def onSL (a : AV) (r : Nat → Nat → Nat → Prop) (q : Nat → Nat → Nat → Nat → Prop) : Prop := match a with | .slc b lo len => r b lo len | .slk b lo len cp => q b lo len cp | _ => False
def onPY (a : AV) (r : Nat → Nat → Nat → Prop) : Prop := match a with | .slc b lo len => r b lo len | .slk b lo len _ => r b lo len | _ => False
def onWin (B : Option Blk) (k : Nat → Sh → Prop) : Prop := match B with | some (.win o e _) => k o e | _ => False
def onAS (a : AV) (k : Sh → DV → Prop) (r : ByteArray → Prop) : Prop := match a with | .agg τ v => k τ v | .str s => r s | _ => False
def onTup (a : AV) (k : List AV → Prop) : Prop := match a with | .tup l => k l | _ => False
def onFn (a : AV) (k : FuncId → List AV → List AV → Prop) : Prop := match a with | .fn f c d => k f c d | _ => False
def onSome {α : Type} (x : Option α) (k : α → Prop) : Prop := match x with | some a => k a | none => False
def onSeq (B : Option Blk) (k : Bool → Sh → List DV → Prop) : Prop := match B with | some (.seq wr e l) => k wr e l | _ => False
def onRef (B : Option Blk) (k : AV → Prop) : Prop := match B with | some (.ref v) => k v | _ => False
def onArr (τ : Sh) (k : Nat → Sh → Prop) : Prop := match τ with | .arr n e => k n e | _ => False
def onInts (σ τ : Sh) (q : IntKind → Prop) (r : Prop) : Prop := match σ, τ with | .int _, .int k => q k | .int _, .str => r | _, _ => False
def onStr (a : AV) (k : ByteArray → Prop) (q : Prop) : Prop := match a with | .str s => k s | _ => q
def onMp (a : AV) (k : Nat → Prop) : Prop := match a with | .mp b => k b | _ => False
def onMpb (B : Option Blk) (k : List ((Int × Int) × Int) → Prop) : Prop := match B with | some (.mpb l) => k l | _ => False
def onTwo (a : AV) (k : Int → Int → Prop) : Prop := match a with | .agg (.cons (.int .i8) (.cons (.int .i8) .unit)) (.cons (.int .i8 u) (.cons (.int .i8 v) .unit)) => k u v | _ => False
def onK (C : Ctx) (t : TypeId) (k : Sh → Prop) (r : AV → Prop) : Prop := match C.ty t, C.rf t with | some τ, _ => k τ | none, some z => r z | _, _ => False
def gsplit (b : Bool) (F : Bool → Prop) : Prop := (b = true → F true) ∧ (b = false → F false)
def isPtr (a : AV) : Prop := match a with | .ptr _ _ _ => True | .rptr _ => True | .fn _ _ _ => True | _ => False
def Sh.fldS (τ : Sh) (f : Nat) : Option Sh := match τ with | .arr _ _ => none | τ => τ.fld f

def onBnd (E : Tmp → AV) (x : Option Operand) (d : Nat) (k : Nat → Prop) : Prop := match x with | none => k d | some y => onI (ev E y) fun _ a => 0 ≤ a ∧ k a.toNat

def fillsP (E : Tmp → AV) (τ : Sh) : DV → List (Nat × Operand) → (DV → Prop) → Prop
  | v, [], k => k v
  | v, (i, x) :: r, k => onD (ev E x) fun s u => τ.fld i = some s ∧ fillsP E τ (v.set [i] u) r k
def fillsLP (E : Tmp → AV) (e : Sh) : List DV → List (Nat × Operand) → (List DV → Prop) → Prop
  | l, [], k => k l
  | l, (i, x) :: r, k => onD (ev E x) fun s u => s = e ∧ i < l.length ∧ fillsLP E e (l.set i u) r k

def acall (P : Program) (n : Nat) (W : List Nat) (f : FuncId) (args : List AV) (H : Heap) (K : AV → Heap → Prop) : Prop :=
  ∃ W' v H', ACall P W' f args H v H' ∧ (∀ i ∈ W', i < H.length → may n W i) ∧ K v H'

/-- A call that leaves the heap, at any heap that goes on from this one. -/
def qcall (P : Program) (f : FuncId) (args : List AV) (H : Heap) (K : AV → Prop) : Prop :=
  ∃ v, (∀ N, ACall P [] f args (H ++ N) v (H ++ N)) ∧ K v

def abin (C : Ctx) (op : BinOp) (t : TypeId) (x y : AV) (K : AV → Prop) : Prop := match x, y with
  | .int k a, .int k' b => if BinOp.isSh op then 0 ≤ b ∧ K (iSh op k a b) else k = k' ∧ (if BinOp.isDiv op then b ≠ 0 ∧ K (iBin op k a b) else K (iBin op k a b))
  | .bool a, .bool b => C.ty t = some .bool ∧ (if op = .eql then K (.bool (a == b)) else op = .neq ∧ K (.bool (a != b)))
  | .agg (.arr n (.int k)) a, .agg τ b => τ = .arr n (.int k) ∧ C.ty t = some (.arr n (.int k)) ∧ C.eq t = true ∧ (if op = .eql then K (.bool (eqD (.arr n (.int k)) a b)) else op = .neq ∧ K (.bool (!eqD (.arr n (.int k)) a b)))
  | .agg (.cons (.int k) (.cons (.int k') .unit)) (.cons (.int j a1) (.cons (.int j' a2) .unit)), .agg τ (.cons (.int i b1) (.cons (.int i' b2) .unit)) =>
    τ = .cons (.int k) (.cons (.int k') .unit) ∧ j = k ∧ j' = k' ∧ i = k ∧ i' = k' ∧ C.ty t = some (.cons (.int k) (.cons (.int k') .unit)) ∧ C.eq t = true ∧
      (if op = .eql then K (.bool (a1 == b1 && a2 == b2)) else op = .neq ∧ K (.bool (!(a1 == b1 && a2 == b2))))
  | .str a, .str b => C.ty t = some .str ∧ (if op = .add then ((a.size + b.size : Nat) : Int) ≤ 9223372036854775807 ∧ K (.str (a ++ b)) else if op = .eql then K (.bool (a.toList == b.toList)) else op = .neq ∧ K (.bool (!(a.toList == b.toList))))
  | .slc _ _ _, .nils => (C.sl t).isSome = true ∧ (if op = .eql then K (.bool false) else op = .neq ∧ K (.bool true))
  | _, _ => False

def onLen (C : Ctx) (t : TypeId) (a : AV) (k : Int → Prop) : Prop := match a with
  | .slc _ _ m => (C.sl t).isSome = true ∧ k m
  | .nils => (C.sl t).isSome = true ∧ k 0
  | .wsl _ m => (C.sl t).isSome = true ∧ k m
  | .slk _ _ m _ => (C.sl t).isSome = true ∧ k m
  | .wz => (C.sl t).isSome = true ∧ k 0
  | .str s => C.ty t = some .str ∧ k s.size
  | .agg (.arr m e) _ => C.ty t = some (.arr m e) ∧ k m
  | _ => False

def abuiltin (C : Ctx) (n : Nat) (W : List Nat) (E : Tmp → AV) (H : Heap) (b : Builtin) (args : List Operand) (ts : List TypeId) (K : AV → Heap → Prop) : Prop := match b, args, ts with
  | .len, [x], [t] => onLen C t (ev E x) fun m => K (.int .i64 m) H
  | .max, [x, y], _ => onI (ev E x) fun k a => onI (ev E y) fun _ b => K (.int k (mm true a b)) H
  | .min, [x, y], _ => onI (ev E x) fun k a => onI (ev E y) fun _ b => K (.int k (mm false a b)) H
  | .max, [x, y, z], _ => onI (ev E x) fun k a => onI (ev E y) fun _ b => onI (ev E z) fun _ c => K (.int k (mm true (mm true a b) c)) H
  | .min, [x, y, z], _ => onI (ev E x) fun k a => onI (ev E y) fun _ b => onI (ev E z) fun _ c => K (.int k (mm false (mm false a b) c)) H
  | .append, [x, y], [t, t'] => onSL (ev E x) (fun b lo m => onPY (ev E y) fun b2 lo2 m2 =>
      onSome (C.sl t) fun e => C.sl t' = some e ∧ lo = 0 ∧ n ≤ b ∧ m + m2 ≤ 1000000 ∧ onSeq H[b]? fun wr e1 l => wr = true ∧ e1 = e ∧ m ≤ l.length ∧ onSeq H[b2]? fun _ e2 l2 => e2 = e ∧ lo2 + m2 ≤ l2.length ∧
        K (.slc H.length 0 (m + m2)) (H.set b (.dead (.seq e)) ++ [.seq true e (l.take m ++ (l2.drop lo2).take m2)]))
      (fun b lo m cp => onPY (ev E y) fun b2 lo2 m2 => onSome (C.sl t) fun e => C.sl t' = some e ∧ lo = 0 ∧ may n W b ∧ m + m2 ≤ cp ∧ 0 < cp ∧ onSeq H[b]? fun wr e1 l => wr = true ∧ e1 = e ∧ m + m2 ≤ l.length ∧ onSeq H[b2]? fun _ e2 l2 => e2 = e ∧ lo2 + m2 ≤ l2.length ∧
        K (.slk b 0 (m + m2) cp) (H.set b (.seq true e (l.take m ++ (l2.drop lo2).take m2 ++ l.drop (m + m2)))))
  | .clear, [x], [t] => onPS (ev E x) (fun _ _ _ => False) fun b lo m => onSome (C.sl t) fun e => may n W b ∧ onSeq H[b]? fun wr e1 l => wr = true ∧ e1 = e ∧ lo + m ≤ l.length ∧
        K (.tup []) (H.set b (.seq true e (l.take lo ++ List.replicate m e.zero ++ l.drop (lo + m))))
  | _, _, _ => False

def aop (C : Ctx) (n : Nat) (W : List Nat) (E : Tmp → AV) (H : Heap) (op : Op) (K : AV → Heap → Prop) : Prop := match op with
  | .move x => K (ev E x) H
  | .assign x => K (ev E x) H
  | .pick c x y => onB (ev E c) fun b => gsplit b fun t => K (if t then ev E x else ev E y) H
  | .alloc t => onK C t (fun τ => K (.ptr H.length [] τ) (H ++ [.data τ τ.zero])) (fun z => K (.rptr H.length) (H ++ [.ref z]))
  | .box t x => onK C t (fun _ => onD (ev E x) fun s v => K (.ptr H.length [] s) (H ++ [.data s v])) (fun _ => (ev E x).oneB = true ∧ K (.rptr H.length) (H ++ [.ref (ev E x)]))
  | .build t ps => onSome (C.ty t) fun τ => τ.agg = true ∧ fillsP E τ τ.zero ps.toList fun v => K (.agg τ v) H
  | .buildSlice t m ps => onSome (C.sl t) fun e => m ≤ 100 ∧ e.size ≤ 10000 ∧ fillsLP E e (List.replicate m e.zero) ps.toList fun l => K (.slc H.length 0 m) (H ++ [.seq true e l])
  | .load t x => onAddr (ev E x) (fun b p τ => C.ty t = some τ ∧ onSome H[b]? fun B => onSome (B.get? p) fun v => K (ofD τ v) H) (fun b => (C.rf t).isSome = true ∧ onRef H[b]? fun v => K v H)
  | .store t x y => onAddr (ev E x) (fun b p τ => C.ty t = some τ ∧ onD (ev E y) fun s v => s = τ ∧ may n W b ∧ onSome H[b]? fun B => onSome (B.set? p v) fun B' => K .junk (H.set b B'))
      (fun b => (C.rf t).isSome = true ∧ (ev E y).oneB = true ∧ may n W b ∧ onRef H[b]? fun _ => K .junk (H.set b (.ref (ev E y))))
  | .nilCheck x => isPtr (ev E x) ∧ K (ev E x) H
  | .binOp op t x y _ => abin C op t (ev E x) (ev E y) fun v => K v H
  | .unOp .not _ x => onB (ev E x) fun b => K (.bool (!b)) H
  | .unOp .neg _ x => onI (ev E x) fun k a => K (.int k (k.wrap (0 - a))) H
  | .convert s t x => onI (ev E x) fun _ a => onSome (C.ty s) fun σ => onSome (C.ty t) fun τ => onInts σ τ (fun k => K (.int k (k.wrap a)) H) (0 ≤ a ∧ a < 128 ∧ K (.str ⟨#[UInt8.ofNat a.toNat]⟩) H)
  | .makeFunc (.func f) first capt => K (.fn f (first.toList.map (ev E)) (capt.toList.map (ev E))) H
  | .makeSlice t x y => onSome (C.sl t) fun e => onI (ev E x) fun _ a => onI (ev E y) fun _ b => 0 ≤ a ∧ a ≤ 1048576 ∧ b = a ∧ K (.slc H.length 0 a.toNat) (H ++ [.seq true e (List.replicate a.toNat e.zero)])
  | .slice t x lo hi none => onStr (ev E x) (fun s => C.ty t = some .str ∧ onBnd E lo 0 fun l => onBnd E hi s.size fun h => l ≤ h ∧ h ≤ s.size ∧ K (.str (s.extract l h)) H) (onSome (C.sl t) fun e => onSL (ev E x) (fun b off m => onSeq H[b]? fun _ e' _ => e' = e ∧ onBnd E lo 0 fun l => onBnd E hi m fun h => l ≤ h ∧ h ≤ m ∧ (if C.sk t = true then 0 < m ∧ K (.slk b (off + l) (h - l) (m - l)) H else K (.slc b (off + l) (h - l)) H))
      (fun b off m cp => onSeq H[b]? fun _ e' _ => e' = e ∧ onBnd E lo 0 fun l => onBnd E hi m fun h => l ≤ h ∧ h ≤ cp ∧ 0 < cp ∧ K (.slc b (off + l) (h - l)) H))
  | .makeMap _ none => K (.mp H.length) (H ++ [.mpb []])
  | .insert t m k x => onMp (ev E m) fun b => onTwo (ev E k) fun u v => onI (ev E x) fun j z => j = .i64 ∧ C.mp t = true ∧ may n W b ∧ onMpb H[b]? fun l => K .junk (H.set b (.mpb (mset l (u, v) z)))
  | .mapUpdate t m k x => onMp (ev E m) fun b => onTwo (ev E k) fun u v => onI (ev E x) fun j z => j = .i64 ∧ C.mp t = true ∧ may n W b ∧ onMpb H[b]? fun l => K .junk (H.set b (.mpb (mset l (u, v) z)))
  | .lookup t m k ok => onMp (ev E m) fun b => onTwo (ev E k) fun u v => C.mp t = true ∧ onMpb H[b]? fun l => K (if ok then .tup [.int .i64 ((mget l (u, v)).getD 0), .bool (mget l (u, v)).isSome] else .int .i64 ((mget l (u, v)).getD 0)) H
  | .slice t x lo (some hi) (some mx) => onSome (C.sl t) fun e => onPS (ev E x) (fun _ _ _ => False) fun b off n => onSeq H[b]? fun _ e' _ => e' = e ∧ onBnd E lo 0 fun l => onI (ev E hi) fun _ h => onI (ev E mx) fun _ m =>
      0 ≤ h ∧ 0 ≤ m ∧ l ≤ h.toNat ∧ h.toNat ≤ m.toNat ∧ m.toNat ≤ n ∧ K (.slc b (off + l) (h.toNat - l)) H
  | .fieldAddr t x f => onAddr (ev E x) (fun b p τ => C.ty t = some τ ∧ onSome (τ.fldS f) fun s => K (.ptr b (p ++ [f]) s) H) (fun _ => False)
  | .field t x f => onAS (ev E x) (fun τ v => C.ty t = some τ ∧ onSome (τ.fldS f) fun s => K (ofD s (v.get [f])) H) (fun _ => False)
  | .indexAddr t x y => onPX (ev E x) (fun b p τ => onArr τ fun m e => C.ty t = some (.arr m e) ∧ onI (ev E y) fun _ i => 0 ≤ i ∧ i < (m : Int) ∧ K (.ptr b (p ++ [i.toNat]) e) H)
      (fun b lo len => onSome (C.sl t) fun e => onSeq H[b]? fun _ e' _ => e' = e ∧ onI (ev E y) fun _ i => 0 ≤ i ∧ i < (len : Int) ∧ K (.ptr b [lo + i.toNat] e) H)
      (fun b len => onSome (C.sl t) fun e => onWin H[b]? fun _ e' => e' = e ∧ onI (ev E y) fun _ i => 0 ≤ i ∧ i < (len : Int) ∧ K (.ptr b [i.toNat] e) H)
  | .index t x y => onAS (ev E x) (fun τ v => onArr τ fun m e => C.ty t = some (.arr m e) ∧ onI (ev E y) fun _ i => 0 ≤ i ∧ i < (m : Int) ∧ K (ofD e (v.get [i.toNat])) H)
      (fun s => C.ty t = some .str ∧ onI (ev E y) fun _ i => 0 ≤ i ∧ onSome s[i.toNat]? fun c => K (.int .u8 c.toNat) H)
  | .extract x i => onTup (ev E x) fun l => onSome l[i]? fun v => K v H
  | .call ⟨.value (.func f), args, _⟩ => if C.quiet f then qcall C.P f (args.toList.map (ev E)) H fun v => K v H else acall C.P n W f (args.toList.map (ev E)) H K
  | .call ⟨.value (.tmp t), args, _⟩ => onFn (E t) fun f c d => acall C.P n W f (c ++ args.toList.map (ev E) ++ d) H K
  | .call ⟨.builtin b, args, ts⟩ => abuiltin C n W E H b args.toList ts.toList K
  | _ => False

def clsOp (C : Ctx) : Op → Cls
  | .load _ _ => .read
  | .lookup _ _ _ _ => .read
  | .makeMap _ _ => .new
  | .insert _ _ _ _ => .eff
  | .mapUpdate _ _ _ _ => .eff
  | .slice _ _ _ _ _ => .read
  | .indexAddr t _ _ => if (C.sl t).isSome then .read else .pure
  | .alloc _ => .new
  | .box _ _ => .new
  | .buildSlice _ _ _ => .new
  | .makeSlice _ _ _ => .new
  | .store _ _ _ => .eff
  | .call ⟨.value (.func f), _, _⟩ => if C.quiet f then .read else .eff
  | .call ⟨.value _, _, _⟩ => .eff
  | .call ⟨.builtin .append, _, _⟩ => .eff
  | .call ⟨.builtin .clear, _, _⟩ => .eff
  | _ => .pure

theorem fillsP_sound {E τ} : ∀ {ps : List (Nat × Operand)} {v : DV} {k : DV → Prop}, fillsP E τ v ps k → ∃ v', Fills τ v (ps.map fun p => (p.1, ev E p.2)) v' ∧ k v'
  | [], v, k, h => ⟨v, .nil v, h⟩
  | (i, x) :: r, v, k, h => by
    simp only [fillsP, onD] at h
    split at h <;> first | (exact h.elim) | skip
    all_goals
      rename_i hx
      obtain ⟨hf, h⟩ := h
      obtain ⟨v', h1, h2⟩ := fillsP_sound h
      refine ⟨v', .cons ?_ hf h1, h2⟩
      rw [hx]
      constructor

theorem fillsLP_sound {E e} : ∀ {ps : List (Nat × Operand)} {l : List DV} {k : List DV → Prop}, fillsLP E e l ps k → ∃ l', FillsL e l (ps.map fun p => (p.1, ev E p.2)) l' ∧ k l'
  | [], v, k, h => ⟨v, .nil v, h⟩
  | (i, x) :: r, v, k, h => by
    simp only [fillsLP, onD] at h
    split at h <;> first | (exact h.elim) | skip
    all_goals
      rename_i hx
      obtain ⟨hf, hi, h⟩ := h
      subst hf
      obtain ⟨v', h1, h2⟩ := fillsLP_sound h
      refine ⟨v', .cons ?_ hi h1, h2⟩
      rw [hx]
      constructor

theorem onD_spec {a : AV} {k : Sh → DV → Prop} (h : onD a k) : ∃ s v, IsD a s v ∧ k s v := by
  unfold onD at h
  split at h <;> first | (exact h.elim) | exact ⟨_, _, by constructor, h⟩
theorem onI_spec {a : AV} {k : IntKind → Int → Prop} (h : onI a k) : ∃ j n, a = .int j n ∧ k j n := by
  unfold onI at h
  split at h <;> first | (exact h.elim) | exact ⟨_, _, rfl, h⟩
theorem onB_spec {a : AV} {k : Bool → Prop} (h : onB a k) : ∃ b, a = .bool b ∧ k b := by
  unfold onB at h
  split at h <;> first | (exact h.elim) | exact ⟨_, rfl, h⟩
theorem onSome_spec {α : Type} {x : Option α} {k : α → Prop} (h : onSome x k) : ∃ a, x = some a ∧ k a := by
  unfold onSome at h
  split at h <;> first | (exact h.elim) | exact ⟨_, rfl, h⟩
theorem onSeq_spec {B : Option Blk} {k : Bool → Sh → List DV → Prop} (h : onSeq B k) : ∃ wr e l, B = some (.seq wr e l) ∧ k wr e l := by
  unfold onSeq at h
  split at h <;> first | (exact h.elim) | exact ⟨_, _, _, rfl, h⟩
theorem onRef_spec {B : Option Blk} {k : AV → Prop} (h : onRef B k) : ∃ v, B = some (.ref v) ∧ k v := by
  unfold onRef at h
  split at h <;> first | (exact h.elim) | exact ⟨_, rfl, h⟩
theorem onArr_spec {τ : Sh} {k : Nat → Sh → Prop} (h : onArr τ k) : ∃ n e, τ = .arr n e ∧ k n e := by
  unfold onArr at h
  split at h <;> first | (exact h.elim) | exact ⟨_, _, rfl, h⟩
theorem onTup_spec {a : AV} {k : List AV → Prop} (h : onTup a k) : ∃ l, a = .tup l ∧ k l := by
  unfold onTup at h
  split at h <;> first | (exact h.elim) | exact ⟨_, rfl, h⟩
theorem onFn_spec {a : AV} {k : FuncId → List AV → List AV → Prop} (h : onFn a k) : ∃ f c d, a = .fn f c d ∧ k f c d := by
  unfold onFn at h
  split at h <;> first | (exact h.elim) | exact ⟨_, _, _, rfl, h⟩
theorem onAddr_spec {a : AV} {k : Nat → List Nat → Sh → Prop} {r : Nat → Prop} (h : onAddr a k r) : (∃ b p τ, a = .ptr b p τ ∧ k b p τ) ∨ (∃ b, a = .rptr b ∧ r b) := by
  unfold onAddr at h
  split at h <;> first | (exact h.elim) | exact .inl ⟨_, _, _, rfl, h⟩ | exact .inr ⟨_, rfl, h⟩
theorem onPS_spec {a : AV} {k : Nat → List Nat → Sh → Prop} {r : Nat → Nat → Nat → Prop} (h : onPS a k r) : (∃ b p τ, a = .ptr b p τ ∧ k b p τ) ∨ (∃ b lo len, a = .slc b lo len ∧ r b lo len) := by
  unfold onPS at h
  split at h <;> first | (exact h.elim) | exact .inl ⟨_, _, _, rfl, h⟩ | exact .inr ⟨_, _, _, rfl, h⟩
theorem onSL_spec {a : AV} {r : Nat → Nat → Nat → Prop} {q : Nat → Nat → Nat → Nat → Prop} (h : onSL a r q) : (∃ b lo len, a = .slc b lo len ∧ r b lo len) ∨ (∃ b lo len cp, a = .slk b lo len cp ∧ q b lo len cp) := by
  unfold onSL at h
  split at h <;> first | (exact h.elim) | exact .inl ⟨_, _, _, rfl, h⟩ | exact .inr ⟨_, _, _, _, rfl, h⟩
theorem onPY_spec {a : AV} {r : Nat → Nat → Nat → Prop} (h : onPY a r) : ∃ b lo len, (∀ ρ S w v, Rv ρ S w a v → Rv ρ S w (.slc b lo len) v) ∧ r b lo len := by
  unfold onPY at h
  split at h <;> first | (exact h.elim) | exact ⟨_, _, _, fun _ _ _ _ hr => hr, h⟩ | exact ⟨_, _, _, fun _ _ _ _ hr => slk_slc hr, h⟩
theorem onPX_spec {a : AV} {k : Nat → List Nat → Sh → Prop} {r : Nat → Nat → Nat → Prop} {q : Nat → Nat → Prop} (h : onPX a k r q) : (∃ b p τ, a = .ptr b p τ ∧ k b p τ) ∨ (∃ b lo len, a = .slc b lo len ∧ r b lo len) ∨ (∃ b len, a = .wsl b len ∧ q b len) := by
  unfold onPX at h
  split at h <;> first | (exact h.elim) | exact .inl ⟨_, _, _, rfl, h⟩ | exact .inr (.inl ⟨_, _, _, rfl, h⟩) | exact .inr (.inr ⟨_, _, rfl, h⟩)
theorem onWin_spec {B : Option Blk} {k : Nat → Sh → Prop} (h : onWin B k) : ∃ o e l, B = some (.win o e l) ∧ k o e := by
  unfold onWin at h
  split at h <;> first | (exact h.elim) | exact ⟨_, _, _, rfl, h⟩
theorem onAS_spec {a : AV} {k : Sh → DV → Prop} {r : ByteArray → Prop} (h : onAS a k r) : (∃ τ v, a = .agg τ v ∧ k τ v) ∨ (∃ s, a = .str s ∧ r s) := by
  unfold onAS at h
  split at h <;> first | (exact h.elim) | exact .inl ⟨_, _, rfl, h⟩ | exact .inr ⟨_, rfl, h⟩
theorem onStr_spec {a : AV} {k : ByteArray → Prop} {q : Prop} (h : onStr a k q) : (∃ s, a = .str s ∧ k s) ∨ q := by
  unfold onStr at h
  split at h
  · exact .inl ⟨_, rfl, h⟩
  · exact .inr h
theorem onMp_spec {a : AV} {k : Nat → Prop} (h : onMp a k) : ∃ b, a = .mp b ∧ k b := by
  unfold onMp at h
  split at h <;> first | exact ⟨_, rfl, h⟩ | exact h.elim
theorem onMpb_spec {B : Option Blk} {k : List ((Int × Int) × Int) → Prop} (h : onMpb B k) : ∃ l, B = some (.mpb l) ∧ k l := by
  unfold onMpb at h
  split at h <;> first | exact ⟨_, rfl, h⟩ | exact h.elim
theorem onTwo_spec {a : AV} {k : Int → Int → Prop} (h : onTwo a k) : ∃ u v, a = .agg shTwo (.cons (.int .i8 u) (.cons (.int .i8 v) .unit)) ∧ k u v := by
  unfold onTwo at h
  split at h <;> first | exact ⟨_, _, rfl, h⟩ | exact h.elim
theorem onK_spec {C : Ctx} {t : TypeId} {k : Sh → Prop} {r : AV → Prop} (h : onK C t k r) : (∃ τ, C.ty t = some τ ∧ k τ) ∨ (∃ z, C.rf t = some z ∧ r z) := by
  unfold onK at h
  split at h <;> first | (exact h.elim) | exact .inl ⟨_, by assumption, h⟩ | exact .inr ⟨_, by assumption, h⟩
theorem onBnd_spec {E : Tmp → AV} {x : Option Operand} {d : Nat} {k : Nat → Prop} (h : onBnd E x d k) : ∃ l, bnd E x d l ∧ k l := by
  unfold onBnd at h
  split at h
  · exact ⟨d, rfl, h⟩
  · obtain ⟨j, a, h1, h2, h3⟩ := onI_spec h
    exact ⟨a.toNat, ⟨j, by rw [h1]; simp [Int.toNat_of_nonneg h2]⟩, h3⟩
theorem fldS_spec {τ s : Sh} {f : Nat} (h : τ.fldS f = some s) : τ.fld f = some s ∧ ∀ n e, τ ≠ .arr n e := by
  cases τ <;> simp only [Sh.fldS] at h <;> first | (cases h; done) | exact ⟨h, fun _ _ h => by cases h⟩

def blkOf : AV → Option Nat
  | .mp b => some b
  | .ptr b _ _ => some b
  | .rptr b => some b
  | _ => none
/-- A load reads one block only, a store writes one block only. -/
structure MemIs (C : Ctx) (n : Nat) (W : List Nat) (E : Tmp → AV) (H : Heap) (op : Op) (v : AV) (H' : Heap) : Prop where
  ld : ∀ t x, op = .load t x → (∀ b, blkOf (ev E x) = some b → b < H.length) ∧ ∀ G o H2, G.S.length = n → G.W = W → o.op = op → (∀ b, blkOf (ev E x) = some b → H2[b]? = H[b]?) → OpStep C.P G o E H2 v H2
  st : ∀ x, effOn op = some x → ∃ b B', blkOf (ev E x) = some b ∧ H' = H.set b B'
theorem MemIs.no {C : Ctx} {n : Nat} {W : List Nat} {E : Tmp → AV} {H : Heap} {op : Op} {v : AV} {H' : Heap} (hm : ∀ t x, op ≠ .load t x) (hs : effOn op = none) : MemIs C n W E H op v H' :=
  ⟨fun t x e => absurd e (hm t x), fun x e => by rw [hs] at e; cases e⟩
/-- What one operation does, as 'aop' has it. -/
def OpIs (C : Ctx) (n : Nat) (W : List Nat) (E : Tmp → AV) (H : Heap) (op : Op) (v : AV) (H' : Heap) : Prop :=
  (∀ G o, G.S.length = n → G.W = W → o.op = op → OpStep C.P G o E H v H') ∧ (heavy (clsOp C op) = false → H' = H) ∧ (clsOp C op = .pure → ∀ G o H2, G.S.length = n → G.W = W → o.op = op → OpStep C.P G o E H2 v H2) ∧
    (clsOp C op = .read → ∀ G o N, G.S.length = n → G.W = W → o.op = op → OpStep C.P G o E (H ++ N) v (H ++ N)) ∧ (clsOp C op = .new → ∃ N, H' = H ++ N) ∧ MemIs C n W E H op v H'

theorem OpIs.read {C : Ctx} {n : Nat} {W : List Nat} {E : Tmp → AV} {H : Heap} {op : Op} {v : AV} (hp : clsOp C op ≠ .pure) (hn : clsOp C op ≠ .new) (h : ∀ G o N, G.S.length = n → G.W = W → o.op = op → OpStep C.P G o E (H ++ N) v (H ++ N)) (hm : ∀ t x, op ≠ .load t x := by intros; nofun) (hs : effOn op = none := by rfl) : OpIs C n W E H op v H :=
  ⟨fun G o a b c => by simpa using h G o [] a b c, fun _ => rfl, fun e => absurd e hp, fun _ G o N => h G o N, fun e => absurd e hn, .no hm hs⟩
theorem OpIs.any {C : Ctx} {n : Nat} {W : List Nat} {E : Tmp → AV} {H : Heap} {op : Op} {v : AV} (hp : clsOp C op = .pure ∨ clsOp C op = .read) (h : ∀ G o H2, G.S.length = n → G.W = W → o.op = op → OpStep C.P G o E H2 v H2) (hm : ∀ t x, op ≠ .load t x := by intros; nofun) (hs : effOn op = none := by rfl) : OpIs C n W E H op v H :=
  ⟨fun G o => h G o _, fun _ => rfl, fun _ G o H2 => h G o H2, fun _ G o N => h G o _, fun e => (by rcases hp with hp | hp <;> rw [hp] at e <;> cases e), .no hm hs⟩
theorem OpIs.call {C : Ctx} {n : Nat} {W : List Nat} {E : Tmp → AV} {H : Heap} {op : Op} {v : AV} (hp : clsOp C op = .call) (h : ∀ G o, G.S.length = n → G.W = W → o.op = op → OpStep C.P G o E H v H) (hm : ∀ t x, op ≠ .load t x := by intros; nofun) (hs : effOn op = none := by rfl) : OpIs C n W E H op v H :=
  ⟨h, fun _ => rfl, fun e => (by rw [hp] at e; cases e), fun e => (by rw [hp] at e; cases e), fun e => (by rw [hp] at e; cases e), .no hm hs⟩
theorem OpIs.eff {C : Ctx} {n : Nat} {W : List Nat} {E : Tmp → AV} {H H' : Heap} {op : Op} {v : AV} (hp : clsOp C op = .eff) (h : ∀ G o, G.S.length = n → G.W = W → o.op = op → OpStep C.P G o E H v H') (hm : ∀ t x, op ≠ .load t x := by intros; nofun) (hs : effOn op = none := by rfl) : OpIs C n W E H op v H' :=
  ⟨h, fun e => (by rw [hp] at e; cases e), fun e => (by rw [hp] at e; cases e), fun e => (by rw [hp] at e; cases e), fun e => (by rw [hp] at e; cases e), .no hm hs⟩
theorem OpIs.new {C : Ctx} {n : Nat} {W : List Nat} {E : Tmp → AV} {H N : Heap} {op : Op} {v : AV} (hp : clsOp C op = .new) (h : ∀ G o, G.S.length = n → G.W = W → o.op = op → OpStep C.P G o E H v (H ++ N)) (hm : ∀ t x, op ≠ .load t x := by intros; nofun) (hs : effOn op = none := by rfl) : OpIs C n W E H op v (H ++ N) :=
  ⟨h, fun e => (by rw [hp] at e; cases e), fun e => (by rw [hp] at e; cases e), fun e => (by rw [hp] at e; cases e), fun _ => ⟨N, rfl⟩, .no hm hs⟩
theorem OpIs.ld {C : Ctx} {n : Nat} {W : List Nat} {E : Tmp → AV} {H : Heap} {t : TypeId} {x : Operand} {v : AV} {b : Nat} (hb : blkOf (ev E x) = some b) (hl : b < H.length) (h : ∀ G o H2, G.S.length = n → G.W = W → o.op = .load t x → H2[b]? = H[b]? → OpStep C.P G o E H2 v H2) : OpIs C n W E H (.load t x) v H := by
  refine ⟨fun G o h1 h2 h3 => h G o H h1 h2 h3 rfl, fun _ => rfl, fun e => Cls.noConfusion e, fun _ G o N h1 h2 h3 => h G o _ h1 h2 h3 (by rw [List.getElem?_append_left hl]), fun e => Cls.noConfusion e, ⟨fun t' x' e => ?_, fun _ e => by cases e⟩⟩
  cases e
  exact ⟨fun b' hb' => by rw [hb] at hb'; cases hb'; exact hl, fun G o H2 h1 h2 h3 h4 => h G o H2 h1 h2 h3 (h4 b hb)⟩
theorem OpIs.st {C : Ctx} {n : Nat} {W : List Nat} {E : Tmp → AV} {H : Heap} {t : TypeId} {x y : Operand} {v : AV} {b : Nat} {B' : Blk} (hb : blkOf (ev E x) = some b) (h : ∀ G o, G.S.length = n → G.W = W → o.op = .store t x y → OpStep C.P G o E H v (H.set b B')) : OpIs C n W E H (.store t x y) v (H.set b B') := by
  refine ⟨h, fun e => (by cases e), fun e => (by cases e), fun e => (by cases e), fun e => (by cases e), ⟨fun _ _ e => (by cases e), fun x' e => ?_⟩⟩
  cases e
  exact ⟨b, B', hb, rfl⟩
theorem OpIs.ef {C : Ctx} {n : Nat} {W : List Nat} {E : Tmp → AV} {H : Heap} {op : Op} {x : Operand} {v : AV} {b : Nat} {B' : Blk} (hp : clsOp C op = .eff) (hx : effOn op = some x) (hb : blkOf (ev E x) = some b) (h : ∀ G o, G.S.length = n → G.W = W → o.op = op → OpStep C.P G o E H v (H.set b B'))
    (hm : ∀ t x, op ≠ .load t x := by intros; nofun) : OpIs C n W E H op v (H.set b B') := by
  refine ⟨h, fun e => (by rw [hp] at e; cases e), fun e => (by rw [hp] at e; cases e), fun e => (by rw [hp] at e; cases e), fun e => (by rw [hp] at e; cases e), ⟨fun t x e => absurd e (hm t x), fun x' e => ?_⟩⟩
  rw [hx] at e
  cases e
  exact ⟨b, B', hb, rfl⟩
theorem get_app {H N : Heap} {b : Nat} {B : Blk} (h : H[b]? = some B) : (H ++ N)[b]? = some B := by
  rw [List.getElem?_append_left (List.getElem?_eq_some_iff.1 h).1]; exact h

theorem aop_sound {C : Ctx} (hC : C.Ok) {n : Nat} {W : List Nat} {E : Tmp → AV} {H : Heap} {op : Op} {K : AV → Heap → Prop} (h : aop C n W E H op K) : ∃ v H', OpIs C n W E H op v H' ∧ K v H' := by
  have sl' : ∀ {t e}, C.sl t = some e → SlOk C.P t e := fun h => hC.sl _ _ h
  cases op with
  | move x => exact ⟨_, H, .any (.inl rfl) fun G o N _ _ ho => step_move ho, h⟩
  | assign x => exact ⟨_, H, .any (.inl rfl) fun G o N _ _ ho => step_assign ho, h⟩
  | pick c x y =>
    obtain ⟨b, hb, h1, h2⟩ := onB_spec (show onB _ _ from h)
    cases b
    · exact ⟨_, H, .any (.inl rfl) fun G o N _ _ ho => step_pick ho hb, h2 rfl⟩
    · exact ⟨_, H, .any (.inl rfl) fun G o N _ _ ho => step_pick ho hb, h1 rfl⟩
  | alloc t =>
    rcases onK_spec (show onK _ _ _ _ from h) with ⟨τ, h1, h2⟩ | ⟨z, h1, h2⟩
    · exact ⟨_, _, .new rfl fun G o _ _ ho => step_alloc ho (hC.ty _ _ h1), h2⟩
    · exact ⟨_, _, .new rfl fun G o _ _ ho => step_allocref ho (hC.rf _ _ h1), h2⟩
  | box t x =>
    rcases onK_spec (show onK _ _ _ _ from h) with ⟨τ, h1, h2⟩ | ⟨z, h1, h2, h3⟩
    · obtain ⟨s, v, h3, h4⟩ := onD_spec h2
      exact ⟨_, _, .new rfl fun G o _ _ ho => step_box ho h3, h4⟩
    · exact ⟨_, _, .new rfl fun G o _ _ ho => step_boxref ho h2, h3⟩
  | build t ps =>
    obtain ⟨τ, h1, h2, h3⟩ := onSome_spec (show onSome _ _ from h)
    obtain ⟨v, h4, h5⟩ := fillsP_sound h3
    exact ⟨_, H, .any (.inl rfl) fun G o N _ _ ho => step_build ho (hC.ty _ _ h1) h2 h4, h5⟩
  | buildSlice t m ps =>
    obtain ⟨e, h1, h2, h2', h3⟩ := onSome_spec (show onSome _ _ from h)
    obtain ⟨v, h4, h5⟩ := fillsLP_sound h3
    exact ⟨_, _, .new rfl fun G o _ _ ho => step_buildSlice ho (sl' h1) h2 h2' h4, h5⟩
  | load t x =>
    rcases onAddr_spec (show onAddr _ _ _ from h) with ⟨b, p, τ, h1, h2, h3⟩ | ⟨b, h1, h2, h3⟩
    · obtain ⟨B, h4, h5⟩ := onSome_spec h3
      obtain ⟨v, h6, h7⟩ := onSome_spec h5
      exact ⟨_, H, .ld (b := b) (by rw [h1]; rfl) (List.getElem?_eq_some_iff.1 h4).1 fun G o H2 _ _ ho hH => step_load ho h1 (hC.ty _ _ h2) (by rw [hH]; exact h4) h6, h7⟩
    · obtain ⟨v, h4, h5⟩ := onRef_spec h3
      obtain ⟨z, hz⟩ := Option.isSome_iff_exists.1 h2
      exact ⟨_, H, .ld (b := b) (by rw [h1]; rfl) (List.getElem?_eq_some_iff.1 h4).1 fun G o H2 _ _ ho hH => step_loadref ho h1 (hC.rf _ _ hz) (by rw [hH]; exact h4), h5⟩
  | store t x y =>
    rcases onAddr_spec (show onAddr _ _ _ from h) with ⟨b, p, τ, h1, h2, h3⟩ | ⟨b, h1, h2, h3, h4, h5⟩
    · obtain ⟨s, v, h4, rfl, h6, h7⟩ := onD_spec h3
      obtain ⟨B, h8, h9⟩ := onSome_spec h7
      obtain ⟨B', h10, h11⟩ := onSome_spec h9
      exact ⟨_, _, .st (by rw [h1]; rfl) fun G o hn hW ho => step_store ho h1 (hC.ty _ _ h2) h4 (by subst hn; subst hW; exact h6) h8 h10, h11⟩
    · obtain ⟨v, h6, h7⟩ := onRef_spec h5
      obtain ⟨z, hz⟩ := Option.isSome_iff_exists.1 h2
      exact ⟨_, _, .st (by rw [h1]; rfl) fun G o hn hW ho => step_storeref ho h1 (hC.rf _ _ hz) h3 (by subst hn; subst hW; exact h4) h6, h7⟩
  | nilCheck x =>
    obtain ⟨h1, h2⟩ := (show isPtr _ ∧ _ from h)
    refine ⟨_, H, .any (.inl rfl) fun G o N _ _ ho => step_nilCheck ho ?_, h2⟩
    unfold isPtr at h1
    split at h1 <;> first | (exact h1.elim) | (rename_i hh; exact .inl ⟨_, _, _, hh⟩) | (rename_i hh; exact .inr (.inl ⟨_, hh⟩)) | (rename_i hh; exact .inr (.inr ⟨_, _, _, hh⟩))
  | binOp op t x y u =>
    have h' : abin C op t (ev E x) (ev E y) fun v => K v H := h
    clear h
    unfold abin at h'
    split at h'
    · rename_i k a k' b hx hy
      split at h'
      · rename_i hs
        exact ⟨_, H, .any (.inl rfl) fun G o N _ _ ho => step_shift ho hx hy hs h'.1, h'.2⟩
      · rename_i hs
        have hs' : BinOp.isSh op = false := by simpa using hs
        obtain ⟨rfl, h'⟩ := h'
        split at h'
        · exact ⟨_, H, .any (.inl rfl) fun G o N _ _ ho => step_bin ho hx hy hs' (fun _ => h'.1), h'.2⟩
        · rename_i hd
          exact ⟨_, H, .any (.inl rfl) fun G o N _ _ ho => step_bin ho hx hy hs' (fun e => absurd e hd), h'⟩
    · rename_i a b hx hy
      obtain ⟨ht, h'⟩ := h'
      split at h'
      · rename_i hop
        exact ⟨_, H, .any (.inl rfl) fun G o N _ _ ho => step_boolcmp ho hx hy (hC.ty _ _ ht) (.inl hop), by rw [if_pos hop]; exact h'⟩
      · rename_i hop
        exact ⟨_, H, .any (.inl rfl) fun G o N _ _ ho => step_boolcmp ho hx hy (hC.ty _ _ ht) (.inr h'.1), by rw [if_neg hop]; exact h'.2⟩
    · rename_i m k a τ b hx hy
      obtain ⟨rfl, ht, he, h'⟩ := h'
      split at h'
      · rename_i hop
        exact ⟨_, H, .any (.inl rfl) fun G o N _ _ ho => step_eqArr ho hx hy (.inl hop) (hC.ty _ _ ht) (hC.eq _ he).1, by rw [if_pos hop]; exact h'⟩
      · rename_i hop
        exact ⟨_, H, .any (.inl rfl) fun G o N _ _ ho => step_eqArr ho hx hy (.inr h'.1) (hC.ty _ _ ht) (hC.eq _ he).1, by rw [if_neg hop]; exact h'.2⟩
    · rename_i k k' j a1 j' a2 τ i b1 i' b2 hx hy
      obtain ⟨rfl, rfl, rfl, rfl, rfl, ht, he, h'⟩ := h'
      obtain ⟨g1, g2, g3⟩ := hC.eq _ he
      have hty := hC.ty _ _ ht
      have hty' := hty
      simp only [TyOk] at hty'
      obtain ⟨⟨fs, f, r, k1, k2, k3, k4, k5, k6⟩, _⟩ := hty'
      have hr : ∃ g, r = [g] := by
        cases r with
        | nil => simp [FldOk] at k6
        | cons g r =>
          cases r with
          | nil => exact ⟨g, rfl⟩
          | cons _ _ => simp [FldOk] at k6
      obtain ⟨g, rfl⟩ := hr
      have hn : f.name ≠ "_" ∧ g.name ≠ "_" := ⟨g3 fs k1 f (by rw [k2]; simp), g3 fs k1 g (by rw [k2]; simp)⟩
      split at h'
      · rename_i hop
        exact ⟨_, H, .any (.inl rfl) fun G o N _ _ ho => step_eqTwo ho hx hy (.inl hop) hty g1 g2 k1 k2 hn, by rw [if_pos hop]; exact h'⟩
      · rename_i hop
        exact ⟨_, H, .any (.inl rfl) fun G o N _ _ ho => step_eqTwo ho hx hy (.inr h'.1) hty g1 g2 k1 k2 hn, by rw [if_neg hop]; exact h'.2⟩
    · rename_i a b hx hy
      obtain ⟨ht, h'⟩ := h'
      split at h'
      · rename_i hop
        subst hop
        exact ⟨_, H, .any (.inl rfl) fun G o N _ _ ho => step_strAdd ho hx hy h'.1, h'.2⟩
      · split at h'
        · rename_i hop
          exact ⟨_, H, .any (.inl rfl) fun G o N _ _ ho => step_strCmp ho hx hy (.inl hop), by rw [if_pos hop]; exact h'⟩
        · rename_i hop
          exact ⟨_, H, .any (.inl rfl) fun G o N _ _ ho => step_strCmp ho hx hy (.inr h'.1), by rw [if_neg hop]; exact h'.2⟩
    · rename_i b lo m hx hy
      obtain ⟨ht, h'⟩ := h'
      obtain ⟨e, he⟩ := Option.isSome_iff_exists.1 ht
      split at h'
      · rename_i hop
        exact ⟨_, H, .any (.inl rfl) fun G o N _ _ ho => step_sliceNil ho hx hy (hC.sl _ _ he) (.inl hop), by rw [if_pos hop]; exact h'⟩
      · rename_i hop
        exact ⟨_, H, .any (.inl rfl) fun G o N _ _ ho => step_sliceNil ho hx hy (hC.sl _ _ he) (.inr h'.1), by rw [if_neg hop]; exact h'.2⟩
    · exact h'.elim
  | unOp op t x =>
    cases op with
    | not =>
      obtain ⟨b, hb, h1⟩ := onB_spec (show onB _ _ from h)
      exact ⟨_, H, .any (.inl rfl) fun G o N _ _ ho => step_not ho hb, h1⟩
    | neg =>
      obtain ⟨k, a, hb, h1⟩ := onI_spec (show onI _ _ from h)
      exact ⟨_, H, .any (.inl rfl) fun G o N _ _ ho => step_neg ho hb, h1⟩
    | _ => exact h.elim
  | convert s t x =>
    obtain ⟨j, a, h1, h2⟩ := onI_spec (show onI _ _ from h)
    obtain ⟨σ, h3, h4⟩ := onSome_spec h2
    obtain ⟨τ, h5, h6⟩ := onSome_spec h4
    unfold onInts at h6
    split at h6
    · exact ⟨_, H, .any (.inl rfl) fun G o N _ _ ho => step_convert ho h1 (hC.ty _ _ h3) (hC.ty _ _ h5), h6⟩
    · exact ⟨_, H, .any (.inl rfl) fun G o N _ _ ho => step_convertStr ho h1 (hC.ty _ _ h3) (hC.ty _ _ h5) h6.1 h6.2.1, h6.2.2⟩
    · exact h6.elim
  | makeFunc fn first capt =>
    cases fn with
    | func f => exact ⟨_, H, .any (.inl rfl) fun G o N _ _ ho => step_makeFunc ho, h⟩
    | _ => exact h.elim
  | makeSlice t x y =>
    obtain ⟨e, h1, h2⟩ := onSome_spec (show onSome _ _ from h)
    obtain ⟨k, a, h3, h4⟩ := onI_spec h2
    obtain ⟨k', b, h5, h6, h7, rfl, h8⟩ := onI_spec h4
    have ha : b = ((b.toNat : Nat) : Int) := (Int.toNat_of_nonneg h6).symm
    exact ⟨_, _, .new rfl fun G o _ _ ho => step_makeSlice ho (sl' h1) (by rw [h3, ← ha]) (by rw [h5, ← ha]) (by omega), h8⟩
  | slice t x lo hi mx =>
    cases mx with
    | some mx =>
      cases hi with
      | none => exact h.elim
      | some hi =>
        obtain ⟨e, h1, h2⟩ := onSome_spec (show onSome _ _ from h)
        rcases onPS_spec h2 with ⟨_, _, _, _, h3⟩ | ⟨b, off, m, h3, h4⟩
        · exact h3.elim
        · obtain ⟨wr, e', l, h5, rfl, h6⟩ := onSeq_spec h4
          obtain ⟨l', h7, h8⟩ := onBnd_spec h6
          obtain ⟨kh, hh, h9, h10⟩ := onI_spec h8
          obtain ⟨km, mm', h11, h12, h13, h14, h15, h16, h17⟩ := onI_spec h10
          have q1 : hh = ((hh.toNat : Nat) : Int) := (Int.toNat_of_nonneg h12).symm
          have q2 : mm' = ((mm'.toNat : Nat) : Int) := (Int.toNat_of_nonneg h13).symm
          exact ⟨_, H, .read (fun e => Cls.noConfusion e) (fun e => Cls.noConfusion e) fun G o N _ _ ho => step_slice3 ho h3 (sl' h1) (shs_get (get_app h5)) h7 (by rw [h9, ← q1]) (by rw [h11, ← q2]) h14 h15 h16, h17⟩
    | none =>
      rcases onStr_spec (show onStr _ _ _ from h) with ⟨s, h1, h2, h3⟩ | h
      · obtain ⟨l', h7, h8⟩ := onBnd_spec h3
        obtain ⟨h', h9, h10, h11, h12⟩ := onBnd_spec h8
        exact ⟨_, H, .any (.inr rfl) fun G o N _ _ ho => step_sliceStr ho h1 (hC.ty _ _ h2) h7 h9 h10 h11, h12⟩
      obtain ⟨e, h1, h2⟩ := onSome_spec (show onSome _ _ from h)
      rcases onSL_spec h2 with ⟨b, off, m, h3, h4⟩ | ⟨b, off, m, cp, h3, h4⟩
      · obtain ⟨wr, e', l, h5, rfl, h6⟩ := onSeq_spec h4
        obtain ⟨l', h7, h8⟩ := onBnd_spec h6
        obtain ⟨h', h9, h10, h11, h12⟩ := onBnd_spec h8
        split at h12
        · exact ⟨_, H, .read (fun e => Cls.noConfusion e) (fun e => Cls.noConfusion e) fun G o N _ _ ho => step_sliceK ho h3 (sl' h1) (shs_get (get_app h5)) h7 h9 h10 h11 h12.1, h12.2⟩
        · exact ⟨_, H, .read (fun e => Cls.noConfusion e) (fun e => Cls.noConfusion e) fun G o N _ _ ho => step_slice ho h3 (sl' h1) (shs_get (get_app h5)) h7 h9 h10 h11, h12⟩
      · obtain ⟨wr, e', l, h5, rfl, h6⟩ := onSeq_spec h4
        obtain ⟨l', h7, h8⟩ := onBnd_spec h6
        obtain ⟨h', h9, h10, h11, h12, h13⟩ := onBnd_spec h8
        exact ⟨_, H, .read (fun e => Cls.noConfusion e) (fun e => Cls.noConfusion e) fun G o N _ _ ho => step_sliceR ho h3 (sl' h1) (shs_get (get_app h5)) h7 h9 h10 h11 h12, h13⟩
  | makeMap t r =>
    cases r with
    | none => exact ⟨_, _, .new rfl fun G o _ _ ho => step_makeMap ho, h⟩
    | some _ => exact h.elim
  | insert t m k x =>
    obtain ⟨b, h1, h2⟩ := onMp_spec (show onMp _ _ from h)
    obtain ⟨u, v, h3, h4⟩ := onTwo_spec h2
    obtain ⟨j, z, h5, rfl, h6, h7, h8⟩ := onI_spec h4
    obtain ⟨l, h9, h10⟩ := onMpb_spec h8
    exact ⟨_, _, .ef rfl rfl (by rw [h1]; rfl) fun G o hn hW ho => step_mapSet (.inr ho) h1 h3 h5 (hC.mp _ h6) (by subst hn; subst hW; exact h7) h9, h10⟩
  | mapUpdate t m k x =>
    obtain ⟨b, h1, h2⟩ := onMp_spec (show onMp _ _ from h)
    obtain ⟨u, v, h3, h4⟩ := onTwo_spec h2
    obtain ⟨j, z, h5, rfl, h6, h7, h8⟩ := onI_spec h4
    obtain ⟨l, h9, h10⟩ := onMpb_spec h8
    exact ⟨_, _, .ef rfl rfl (by rw [h1]; rfl) fun G o hn hW ho => step_mapSet (.inl ho) h1 h3 h5 (hC.mp _ h6) (by subst hn; subst hW; exact h7) h9, h10⟩
  | lookup t m k ok =>
    obtain ⟨b, h1, h2⟩ := onMp_spec (show onMp _ _ from h)
    obtain ⟨u, v, h3, h4, h5⟩ := onTwo_spec h2
    obtain ⟨l, h6, h7⟩ := onMpb_spec h5
    exact ⟨_, H, .read (fun e => Cls.noConfusion e) (fun e => Cls.noConfusion e) fun G o N _ _ ho => step_lookup ho h1 h3 (hC.mp _ h4) (get_app h6), h7⟩
  | fieldAddr t x f =>
    rcases onAddr_spec (show onAddr _ _ _ from h) with ⟨b, p, τ, h1, h2, h3⟩ | ⟨b, h1, h2⟩
    · obtain ⟨s, h4, h5⟩ := onSome_spec h3
      obtain ⟨h6, h7⟩ := fldS_spec h4
      exact ⟨_, H, .any (.inl rfl) fun G o N _ _ ho => step_fieldAddr ho h1 (hC.ty _ _ h2) h7 h6, h5⟩
    · exact h2.elim
  | field t x f =>
    rcases onAS_spec (show onAS _ _ _ from h) with ⟨τ, v, h1, h2, h3⟩ | ⟨b, h1, h2⟩
    · obtain ⟨s, h4, h5⟩ := onSome_spec h3
      obtain ⟨h6, h7⟩ := fldS_spec h4
      exact ⟨_, H, .any (.inl rfl) fun G o N _ _ ho => step_field ho h1 (hC.ty _ _ h2) h7 h6, h5⟩
    · exact h2.elim
  | indexAddr t x y =>
    rcases onPX_spec (show onPX _ _ _ _ from h) with ⟨b, p, τ, h1, h2⟩ | ⟨b, lo, len, h1, h2⟩ | ⟨b, len, h1, h2⟩
    · obtain ⟨m, e, rfl, h3, h4⟩ := onArr_spec h2
      obtain ⟨k, i, h5, h6, h7, h8⟩ := onI_spec h4
      exact ⟨_, H, .any (by simp only [clsOp]; cases (C.sl t).isSome <;> simp) fun G o N _ _ ho => step_indexAddr ho h1 h5 (hC.ty _ _ h3) h6 h7, h8⟩
    · obtain ⟨e, h3, h4⟩ := onSome_spec h2
      obtain ⟨wr, e', l, h5, rfl, h6⟩ := onSeq_spec h4
      obtain ⟨k, i, h7, h8, h9, h10⟩ := onI_spec h6
      exact ⟨_, H, .read (by simp [clsOp, h3]) (by simp [clsOp, h3]) fun G o N _ _ ho => step_indexSl ho h1 h7 (sl' h3) (shs_get (get_app h5)) h8 h9, h10⟩
    · obtain ⟨e, h3, h4⟩ := onSome_spec h2
      obtain ⟨f, e', l, h5, rfl, h6⟩ := onWin_spec h4
      obtain ⟨k, i, h7, h8, h9, h10⟩ := onI_spec h6
      exact ⟨_, H, .read (by simp [clsOp, h3]) (by simp [clsOp, h3]) fun G o N _ _ ho => step_indexW ho h1 h7 (sl' h3) (shs_get (get_app h5)) h8 h9, h10⟩
  | index t x y =>
    rcases onAS_spec (show onAS _ _ _ from h) with ⟨τ, v, h1, h2⟩ | ⟨s, h1, h2, h3⟩
    · obtain ⟨m, e, rfl, h3, h4⟩ := onArr_spec h2
      obtain ⟨k, i, h5, h6, h7, h8⟩ := onI_spec h4
      exact ⟨_, H, .any (.inl rfl) fun G o N _ _ ho => step_index ho h1 h5 (hC.ty _ _ h3) h6 h7, h8⟩
    · obtain ⟨k, i, h5, h6, h7⟩ := onI_spec h3
      obtain ⟨c, h8, h9⟩ := onSome_spec h7
      exact ⟨_, H, .any (.inl rfl) fun G o N _ _ ho => step_indexStr ho h1 h5 (hC.ty _ _ h2) h6 h8, h9⟩
  | extract x i =>
    obtain ⟨l, h1, h2⟩ := onTup_spec (show onTup _ _ from h)
    obtain ⟨v, h3, h4⟩ := onSome_spec h2
    exact ⟨_, H, .any (.inl rfl) fun G o N _ _ ho => step_extract ho h1 h3, h4⟩
  | call c =>
    obtain ⟨callee, args, ts⟩ := c
    cases callee with
    | value f =>
      cases f with
      | func f =>
        simp only [aop] at h
        split at h
        · rename_i hq
          obtain ⟨v, h1, h4⟩ := h
          exact ⟨v, _, .read (by simp [clsOp, hq]) (by simp [clsOp, hq]) fun G o N hn hW ho => step_call ho (h1 N) (fun i hi => by simp at hi), h4⟩
        · rename_i hq
          obtain ⟨W', v, H', h1, h2, h4⟩ := h
          exact ⟨v, _, .eff (by simp [clsOp, hq]) fun G o hn hW ho => step_call ho h1 (by subst hn; subst hW; exact h2), h4⟩
      | tmp t =>
        obtain ⟨f, c, d, h0, W', v, H', h1, h2, h4⟩ := onFn_spec (show onFn _ _ from h)
        exact ⟨v, _, .eff rfl fun G o hn hW ho => step_callfn ho h0 h1 (by subst hn; subst hW; exact h2), h4⟩
      | _ => exact h.elim
    | invoke _ _ => exact h.elim
    | builtin b =>
      have h' : abuiltin C n W E H b args.toList ts.toList K := h
      clear h
      obtain ⟨args⟩ := args
      obtain ⟨ts⟩ := ts
      simp only at h'
      unfold abuiltin at h'
      split at h'
      · rename_i x t
        unfold onLen at h'
        split at h'
        · rename_i hx
          obtain ⟨e, he⟩ := Option.isSome_iff_exists.1 h'.1
          exact ⟨_, H, .any (.inl rfl) fun G o N _ _ ho => step_lenSl ho hx (sl' he), h'.2⟩
        · rename_i hx
          obtain ⟨e, he⟩ := Option.isSome_iff_exists.1 h'.1
          exact ⟨_, H, .any (.inl rfl) fun G o N _ _ ho => step_lenNils ho hx (sl' he), h'.2⟩
        · rename_i hx
          obtain ⟨e, he⟩ := Option.isSome_iff_exists.1 h'.1
          exact ⟨_, H, .any (.inl rfl) fun G o N _ _ ho => step_lenW ho hx (sl' he), h'.2⟩
        · rename_i hx
          obtain ⟨e, he⟩ := Option.isSome_iff_exists.1 h'.1
          exact ⟨_, H, .any (.inl rfl) fun G o N _ _ ho => step_lenK ho hx (sl' he), h'.2⟩
        · rename_i hx
          obtain ⟨e, he⟩ := Option.isSome_iff_exists.1 h'.1
          exact ⟨_, H, .any (.inl rfl) fun G o N _ _ ho => step_lenWz ho hx (sl' he), h'.2⟩
        · rename_i hx
          exact ⟨_, H, .any (.inl rfl) fun G o N _ _ ho => step_lenStr ho hx (hC.ty _ _ h'.1), h'.2⟩
        · exact ⟨_, H, .any (.inl rfl) fun G o N _ _ ho => step_lenArr ho (hC.ty _ _ h'.1), h'.2⟩
        · exact h'.elim
      · rename_i x y
        obtain ⟨k, a, h1, h2⟩ := onI_spec h'
        obtain ⟨k', b, h3, h4⟩ := onI_spec h2
        exact ⟨_, H, .any (.inl rfl) fun G o N _ _ ho => step_mm2 (mx := true) ho h1 h3, h4⟩
      · rename_i x y
        obtain ⟨k, a, h1, h2⟩ := onI_spec h'
        obtain ⟨k', b, h3, h4⟩ := onI_spec h2
        exact ⟨_, H, .any (.inl rfl) fun G o N _ _ ho => step_mm2 (mx := false) ho h1 h3, h4⟩
      · rename_i x y z
        obtain ⟨k, a, h1, h2⟩ := onI_spec h'
        obtain ⟨k', b, h3, h4⟩ := onI_spec h2
        obtain ⟨k'', c, h5, h6⟩ := onI_spec h4
        exact ⟨_, H, .any (.inl rfl) fun G o N _ _ ho => step_mm3 (mx := true) ho h1 h3 h5, h6⟩
      · rename_i x y z
        obtain ⟨k, a, h1, h2⟩ := onI_spec h'
        obtain ⟨k', b, h3, h4⟩ := onI_spec h2
        obtain ⟨k'', c, h5, h6⟩ := onI_spec h4
        exact ⟨_, H, .any (.inl rfl) fun G o N _ _ ho => step_mm3 (mx := false) ho h1 h3 h5, h6⟩
      · rename_i x y t t'
        rcases onSL_spec h' with ⟨b, lo, m, h1, h2⟩ | ⟨b, lo, m, cp, h1, h2⟩
        · obtain ⟨b2, lo2, m2, h3, h4⟩ := onPY_spec h2
          obtain ⟨e, h5, h6, rfl, h7, h8, h9⟩ := onSome_spec h4
          obtain ⟨wr, e1, l, h10, rfl, rfl, h11, h12⟩ := onSeq_spec h9
          obtain ⟨wr2, e2, l2, h13, rfl, h14, h15⟩ := onSeq_spec h12
          exact ⟨_, _, .eff rfl fun G o hn hW ho => step_append ho h1 h3 (sl' h5) (sl' h6) h10 h13 h11 h14 (by subst hn; exact h7) h8, h15⟩
        · obtain ⟨b2, lo2, m2, h3, h4⟩ := onPY_spec h2
          obtain ⟨e, h5, h6, rfl, h7, h8, h8', h9⟩ := onSome_spec h4
          obtain ⟨wr, e1, l, h10, rfl, rfl, h11, h12⟩ := onSeq_spec h9
          obtain ⟨wr2, e2, l2, h13, rfl, h14, h15⟩ := onSeq_spec h12
          exact ⟨_, _, .eff rfl fun G o hn hW ho => step_appendIn ho h1 h3 (sl' h5) (sl' h6) h10 h13 h11 h14 (by subst hn; subst hW; exact h7) h8 h8', h15⟩
      · rename_i x t
        rcases onPS_spec h' with ⟨_, _, _, _, h3⟩ | ⟨b, lo, m, h1, h2⟩
        · exact h3.elim
        obtain ⟨e, h5, h6, h7⟩ := onSome_spec h2
        obtain ⟨wr, e1, l, h10, rfl, rfl, h11, h12⟩ := onSeq_spec h7
        exact ⟨_, _, .eff rfl fun G o hn hW ho => step_clear ho h1 (sl' h5) h10 h11 (by subst hn; subst hW; exact h6), h12⟩
      · exact h'.elim
  | _ => exact h.elim
end Ink
/- The evaluator: regions, code, loops, functions. 'acall_of_body' turns what it asks into a contract. No conditions. -/
namespace Ink
open Go

abbrev Env := List (Nat × AV)
def look (E : Env) (t : Nat) : AV := match E with
  | [] => .junk
  | (s, v) :: r => if s = t then v else look r t
def putE (E : Env) (d : Option Tmp) (v : AV) : Env := match d with
  | none => E
  | some d => (d, v) :: E

theorem look_putE (E : Env) (d : Option Tmp) (v : AV) : look (putE E d v) = updE (look E) d v := by
  cases d with
  | none => rfl
  | some d =>
    funext t
    simp only [putE, look, updE]
    by_cases h : d = t
    · rw [if_pos h, if_pos h.symm]
    · rw [if_neg h, if_neg fun e => h e.symm]

/-- The destination of an operation of the region. -/
def dstOf (ops : List Oper) (j : Nat) : Option Tmp := (ops[j]?).bind (·.dst)

/-- A guard's value: a bool, or nothing at all if the guard's own operation was passed over. -/
def onG : AV → (Bool → Prop) → Prop → Prop
  | .bool b, k, _ => k b
  | .tup [], _, q => q
  | _, _, _ => False
theorem onG_spec {v : AV} {k : Bool → Prop} {q : Prop} (h : onG v k q) : (∃ b, v = .bool b ∧ k b) ∨ (v = .tup [] ∧ q) := by
  unfold onG at h
  split at h
  · exact .inl ⟨_, rfl, h⟩
  · exact .inr ⟨rfl, h⟩
  · exact h.elim

def aops (C : Ctx) (n : Nat) (W : List Nat) (ops : List Oper) : List Oper → Env → Heap → (Env → Heap → Prop) → Prop
  | [], E, H, Q => Q E H
  | o :: r, E, H, Q => match o.guard with
    | none => aop C n W (look E) H o.op fun v H' => aops C n W ops r (putE E o.dst v) H' Q
    | some (j, want) => onSome (dstOf ops j) fun d => onG (look E d) (fun b => gsplit b fun b' =>
        if b' = want then aop C n W (look ((d, .bool b') :: E)) H o.op fun v H' => aops C n W ops r (putE ((d, .bool b') :: E) o.dst v) H' Q
        else aops C n W ops r (putE ((d, .bool b') :: E) o.dst (.tup [])) H Q) (aops C n W ops r (putE E o.dst (.tup [])) H Q)

def GIs (C : Ctx) (n : Nat) (W : List Nat) (ops : Array Oper) (o : Oper) (E : Nat → AV) (H : Heap) (v : AV) (H' : Heap) : Prop :=
  (GuardIs ops o E true ∧ OpIs C n W E H o.op v H') ∨ (GuardIs ops o E false ∧ v = .tup [] ∧ H' = H)

inductive Tr (C : Ctx) (n : Nat) (W : List Nat) (ops : Array Oper) : List Oper → (Nat → AV) → Heap → (Nat → AV) → Heap → Prop where
  | nil (E H) : Tr C n W ops [] E H E H
  | cons {o r E H v H1 E' H'} (h : GIs C n W ops o E H v H1) (k : Tr C n W ops r (updE E o.dst v) H1 E' H') : Tr C n W ops (o :: r) E H E' H'

theorem look_same {E : Env} {d : Nat} {b : Bool} (h : look E d = .bool b) : look ((d, .bool b) :: E) = look E := by
  funext t
  simp only [look]
  split
  · rename_i e; subst e; exact h.symm
  · rfl

theorem aops_tr {C : Ctx} (hC : C.Ok) {n W} {ops : List Oper} : ∀ {l : List Oper} {E : Env} {H : Heap} {Q : Env → Heap → Prop}, aops C n W ops l E H Q → ∃ E' H', Tr C n W ops.toArray l (look E) H (look E') H' ∧ Q E' H'
  | [], E, H, Q, h => ⟨E, H, .nil _ _, h⟩
  | o :: r, E, H, Q, h => by
    unfold aops at h
    split at h
    · rename_i hg
      obtain ⟨v, H1, h1, h2⟩ := aop_sound hC h
      obtain ⟨E', H', h3, h4⟩ := aops_tr hC h2
      rw [look_putE] at h3
      exact ⟨E', H', .cons (.inl ⟨by simp [GuardIs, hg], h1⟩) h3, h4⟩
    · rename_i j want hg
      obtain ⟨d, hd, h⟩ := onSome_spec h
      have hd' : (ops.toArray[j]?).bind (·.dst) = some d := by simpa [dstOf] using hd
      rcases onG_spec h with ⟨b, hb, h⟩ | ⟨hu, h⟩
      · skip
        have hcase : (b = want → aop C n W (look ((d, .bool b) :: E)) H o.op fun v H' => aops C n W ops r (putE ((d, .bool b) :: E) o.dst v) H' Q) ∧
            (b ≠ want → aops C n W ops r (putE ((d, .bool b) :: E) o.dst (.tup [])) H Q) := by
          obtain ⟨h1, h2⟩ := h
          cases b
          · have := h2 rfl
            dsimp only at this
            exact ⟨fun e => by rw [if_pos e] at this; exact this, fun e => by rw [if_neg e] at this; exact this⟩
          · have := h1 rfl
            dsimp only at this
            exact ⟨fun e => by rw [if_pos e] at this; exact this, fun e => by rw [if_neg e] at this; exact this⟩
        by_cases hw : b = want
        · have h1 := hcase.1 hw
          rw [look_same hb] at h1
          obtain ⟨v, H1, h1, h2⟩ := aop_sound hC h1
          obtain ⟨E', H', h3, h4⟩ := aops_tr hC h2
          rw [look_putE, look_same hb] at h3
          exact ⟨E', H', .cons (.inl ⟨by simp only [GuardIs, hg]; exact ⟨d, hd', .inl ⟨b, hb, by simp [hw]⟩⟩, h1⟩) h3, h4⟩
        · have h1 := hcase.2 hw
          obtain ⟨E', H', h3, h4⟩ := aops_tr hC h1
          rw [look_putE, look_same hb] at h3
          exact ⟨E', H', .cons (.inr ⟨by simp only [GuardIs, hg]; exact ⟨d, hd', .inl ⟨b, hb, by simp [hw]⟩⟩, rfl, rfl⟩) h3, h4⟩
      · obtain ⟨E', H', h3, h4⟩ := aops_tr hC h
        rw [look_putE] at h3
        exact ⟨E', H', .cons (.inr ⟨by simp only [GuardIs, hg]; exact ⟨d, hd', .inr ⟨hu, trivial⟩⟩, rfl, rfl⟩) h3, h4⟩

/-! ### A region's soundness -/
/-- The state of a frame. -/
structure St (G : Ent) (nt : Nat) (E : Nat → AV) (H : Heap) (a : Act) (w : World) : Prop where
  tmps : a.tmps.size = nt
  defers : a.defers = G.ds
  st : ∃ ρ, Inv G ρ H w ∧ ∀ t, Rv ρ (shs H) w (E t) (a.tmps.getD t undef)

theorem St.put {G : Ent} {nt : Nat} {E : Nat → AV} {H H' : Heap} {a : Act} {w w' : World} {ρ ρ' : Nat → Nat} {v : AV} {x : Value} {d : Option Tmp} (ht : a.tmps.size = nt) (hdf : a.defers = G.ds) (he : ∀ t, Rv ρ (shs H) w (E t) (a.tmps.getD t undef)) (hd : ∀ t, d = some t → t < nt)
    (hi : Inv G ρ' H' w') (hE : Ext ρ (shs H) w ρ' (shs H') w') (hx : Rv ρ' (shs H') w' v x) : St G nt (updE E d v) H' (a.put d x) w' := by
  cases d with
  | none => exact ⟨ht, hdf, ρ', hi, fun t => (he t).mono hE⟩
  | some d =>
    refine ⟨by simp [Act.put, ht], hdf, ρ', hi, fun t => ?_⟩
    by_cases h : t = d
    · subst h
      have := hd t rfl
      simp [updE, Act.put, ht, this]
      exact hx
    · simp only [updE, if_neg h]
      have h' : ¬ d = t := fun e => h e.symm
      simp [Act.put, h']
      have := (he t).mono hE
      simpa using this

def dstOk (nt : Nat) (ops : List Oper) : Bool := ops.all fun o => match o.dst with | some d => decide (d < nt) | none => true

theorem dstOk_spec {nt : Nat} {ops : List Oper} (h : dstOk nt ops = true) {o : Oper} (ho : o ∈ ops) : ∀ t, o.dst = some t → t < nt := by
  intro t ht
  have := List.all_eq_true.1 h o ho
  simpa [ht] using this

theorem tr_wp {C : Ctx} {G : Ent} {nt : Nat} {ops : Array Oper} (hd : dstOk nt ops.toList = true) {Q : Exit → Act → World → Prop} :
    ∀ {l : List Oper} {k : Nat} {E H E' H'}, (∀ j, l[j]? = ops[k + j]?) → Tr C G.S.length G.W ops l E H E' H' → (∀ a w, St G nt E' H' a w → Q .normal a w) → ∀ a w, St G nt E H a w →
      wpOps C.P ops Q (List.range' k l.length) a w
  | [], k, E, H, E', H', _, ht, hq, a, w, hs => by cases ht; simpa [wpOps] using hq a w hs
  | o :: l, k, E, H, E', H', hl, ht, hq, a, w, hs => by
    have ho : ops[k]? = some o := by simpa using (hl 0).symm
    have hom : o ∈ ops.toList := by
      rw [← Array.getElem?_toList] at ho
      exact List.mem_of_getElem? ho
    cases ht with
    | @cons _ _ _ _ v H1 _ _ h1 h2 =>
    obtain ⟨hts, hdf, ρ, hi, he⟩ := hs
    have hrest := fun a w => tr_wp (G := G) (nt := nt) hd (l := l) (k := k + 1) (fun j => by have := hl (j + 1); simpa [Nat.add_assoc, Nat.add_comm 1 j] using this) h2 hq a w
    rw [List.length_cons, List.range'_succ]
    simp only [wpOps, ho]
    rcases h1 with ⟨hg, hop⟩ | ⟨hg, rfl, rfl⟩
    · rw [hg.wanted fun t _ => he t]
      simp only [if_true]
      left
      exact hop.1 G o rfl rfl rfl ρ a w _ _ hi (fun t _ => he t) fun x w' ρ' h3 h4 h5 => hrest _ _ (St.put hts hdf he (dstOk_spec hd hom) h3 h4 h5)
    · rw [hg.wanted fun t _ => he t]
      simp only [Bool.false_eq_true, if_false]
      exact hrest _ _ (St.put hts hdf he (dstOk_spec hd hom) hi (Ext.refl _ _ _) ⟨[], rfl, trivial⟩)

def clsO (C : Ctx) (o : Oper) : Cls := clsOp C o.op

theorem tr_run {C : Ctx} {G : Ent} {ops : Array Oper} : ∀ {l : List Oper} {k : Nat} {E H E' H'}, (∀ j, l[j]? = ops[k + j]?) → k + l.length = ops.size → Tr C G.S.length G.W ops l E H E' H' →
    ∃ (Es : Nat → Nat → AV) (Hs : Nat → Heap) (vs : Nat → AV), Es k = E ∧ Hs k = H ∧ Es ops.size = E' ∧ Hs ops.size = H' ∧
      ∀ m o, k ≤ m → ops[m]? = some o → GIs C G.S.length G.W ops o (Es m) (Hs m) (vs m) (Hs (m + 1)) ∧ Es (m + 1) = updE (Es m) o.dst (vs m)
  | [], k, E, H, E', H', _, hk, ht => by
    cases ht
    refine ⟨fun _ => E, fun _ => H, fun _ => .junk, rfl, rfl, rfl, rfl, fun m o hm ho => ?_⟩
    have := (Array.getElem?_eq_some_iff.1 ho).1
    simp at hk
    omega
  | o :: l, k, E, H, E', H', hl, hk, ht => by
    have ho : ops[k]? = some o := by simpa using (hl 0).symm
    cases ht with
    | @cons _ _ _ _ v H1 _ _ h1 h2 =>
    obtain ⟨Es, Hs, vs, e1, e2, e3, e4, e5⟩ := tr_run (k := k + 1) (fun j => by have := hl (j + 1); simpa [Nat.add_assoc, Nat.add_comm 1 j] using this) (by simp at hk; omega) h2
    have hks : k ≠ ops.size := by simp at hk; omega
    refine ⟨fun m => if m = k then E else Es m, fun m => if m = k then H else Hs m, fun m => if m = k then v else vs m, by simp, by simp, by show (if ops.size = k then E else Es ops.size) = E'; rw [if_neg (fun e => hks e.symm)]; exact e3, by show (if ops.size = k then H else Hs ops.size) = H'; rw [if_neg (fun e => hks e.symm)]; exact e4, fun m o' hm ho' => ?_⟩
    by_cases hmk : m = k
    · subst hmk
      rw [ho] at ho'
      cases ho'
      simp only [if_true]
      rw [if_neg (by omega), if_neg (by omega), e1, e2]
      exact ⟨h1, rfl⟩
    · have := e5 m o' (by omega) ho'
      simp only [hmk, if_false]
      rw [if_neg (by omega), if_neg (by omega)]
      exact this

theorem getD_none (m j : Nat) : (Array.replicate m false).getD j false = false := by
  rcases Nat.lt_or_ge j m with h | h
  · simp [h]
  · simp [h]

/-- The pairs lie apart. -/
def apB (x y : AV) : Prop := ∀ b b', blkOf x = some b → blkOf y = some b' → b ≠ b'
def Apart (ap : List (Tmp × Tmp)) (E : Nat → AV) : Prop := ∀ p ∈ ap, apB (E p.1) (E p.2)

/-- A load that comes late. -/
theorem late_of {C : Ctx} {G : Ent} {ap : List (Tmp × Tmp)} {ops : Array Oper} {Es : Nat → Nat → AV} {Hs : Nat → Heap} {vs : Nat → AV} (hap : Apart ap (Es ops.size))
    (hst : ∀ m o, ops[m]? = some o → GIs C G.S.length G.W ops o (Es m) (Hs m) (vs m) (Hs (m + 1)) ∧ Es (m + 1) = updE (Es m) o.dst (vs m)) (k : Nat) (o : Oper) (ho : ops[k]? = some o) (hc : clsO C o = .read) (m : Nat) (hkm : k ≤ m) (hm : m ≤ ops.size)
    (hall : ∀ i b, k ≤ i → i < m → ops[i]? = some b → heavy (clsO C b) = true → clsO C b = .new ∨ allowed (clsO C) ap ops k i o b = true) : GStep C.P G ops o (Es k) (Hs m) (vs k) (Hs m) := by
  rcases (hst k o ho).1 with ⟨h1, h2⟩ | ⟨h1, h2, _⟩
  · refine .inl ⟨h1, ?_⟩
    by_cases hex : ∃ i b, k ≤ i ∧ i < m ∧ ops[i]? = some b ∧ allowed (clsO C) ap ops k i o b = true
    · obtain ⟨i0, b0, hi0, hi0m, hb0, ha0⟩ := hex
      obtain ⟨_, _, _, _, t, x, _, hop, _⟩ := allowed_spec ha0
      obtain ⟨hlt, hld⟩ := h2.2.2.2.2.2.ld t _ hop
      have hxs : ∀ d, k + d ≤ ops.size → Es (k + d) x = Es k x := by
        have hx := (allowed_spec ha0).2.2.2.2
        obtain ⟨_, x', _, hop', _, _, hnx, _⟩ := hx
        rw [hop] at hop'
        cases hop'
        intro d
        induction d with
        | zero => intro _; rfl
        | succ d ih =>
          intro hd
          have hq : ops[k + d]? = some ops[k + d] := by simp
          rw [← Nat.add_assoc, (hst _ _ hq).2, ← ih (by omega)]
          have := hnx (k + d) _ (by omega) hq
          cases hds : ops[k + d].dst with
          | none => rfl
          | some e => rw [hds] at this; simp only [updE]; rw [if_neg fun h => this (by rw [h])]
      have hget : ∀ b, blkOf (Es k x) = some b → ∀ d, k + d ≤ m → (Hs (k + d))[b]? = (Hs k)[b]? := by
        intro b hb d
        have hbl := hlt b hb
        induction d with
        | zero => intro _; rfl
        | succ d ih =>
          intro hd
          have hih := ih (by omega)
          have hbl' : b < (Hs (k + d)).length := by
            rw [List.getElem?_eq_getElem hbl] at hih
            exact (List.getElem?_eq_some_iff.1 hih).1
          have hq : ops[k + d]? = some ops[k + d] := by simp
          rw [← hih, ← Nat.add_assoc]
          rcases (hst _ _ hq).1 with ⟨g1, g2⟩ | ⟨_, _, g3⟩
          · by_cases hh : heavy (clsO C ops[k + d]) = true
            · rcases hall (k + d) _ (by omega) (by omega) hq hh with hn | ha
              · obtain ⟨N, hN⟩ := g2.2.2.2.2.1 hn
                rw [hN, List.getElem?_append_left hbl']
              · obtain ⟨_, _, _, _, _, x', y, hop', hst', hmem, _, hny⟩ := allowed_spec ha
                rw [hop] at hop'
                cases hop'
                obtain ⟨b', B', hb', hH'⟩ := g2.2.2.2.2.2.st _ hst'
                have hys : ∀ e, k + d + e ≤ ops.size → Es (k + d + e) y = Es (k + d) y := by
                  intro e
                  induction e with
                  | zero => intro _; rfl
                  | succ e ihe =>
                    intro he
                    have hq2 : ops[k + d + e]? = some ops[k + d + e] := by simp
                    rw [← Nat.add_assoc, (hst _ _ hq2).2, ← ihe (by omega)]
                    have := hny (k + d + e) _ (by omega) hq2
                    cases hds : ops[k + d + e].dst with
                    | none => rfl
                    | some e => rw [hds] at this; simp only [updE]; rw [if_neg fun h => this (by rw [h])]
                have e1 : Es ops.size x = Es k x := by
                  have := hxs (ops.size - k) (by omega)
                  rwa [show k + (ops.size - k) = ops.size by omega] at this
                have e2 : Es ops.size y = Es (k + d) y := by
                  have := hys (ops.size - (k + d)) (by omega)
                  rwa [show k + d + (ops.size - (k + d)) = ops.size by omega] at this
                have hne := hap _ hmem b b' (by rw [e1]; exact hb) (by rw [e2]; exact hb')
                rw [hH', List.getElem?_set_ne fun e => hne e.symm]
            · rw [g2.2.1 (show heavy (clsO C ops[k + d]) = false by simpa using hh)]
          · rw [g3]
      have e3 : k + (m - k) = m := by omega
      exact hld G o (Hs m) rfl rfl rfl fun b hb => by have := hget b hb (m - k) (by omega); rwa [e3] at this
    · have hgrow : ∀ d, k + d ≤ m → ∃ N, Hs (k + d) = Hs k ++ N := by
        intro d
        induction d with
        | zero => intro _; exact ⟨[], by simp⟩
        | succ d ih =>
          intro hd
          obtain ⟨N, hN⟩ := ih (by omega)
          have hq : ops[k + d]? = some ops[k + d] := by simp
          rw [← Nat.add_assoc]
          rcases (hst _ _ hq).1 with ⟨g1, g2⟩ | ⟨_, _, g3⟩
          · by_cases hh : heavy (clsO C ops[k + d]) = true
            · rcases hall (k + d) _ (by omega) (by omega) hq hh with hn | ha
              · obtain ⟨N', hN'⟩ := g2.2.2.2.2.1 hn
                exact ⟨N ++ N', by rw [hN', hN, List.append_assoc]⟩
              · exact absurd ⟨k + d, _, by omega, by omega, hq, ha⟩ hex
            · exact ⟨N, by rw [g2.2.1 (show heavy (clsO C ops[k + d]) = false by simpa using hh), hN]⟩
          · exact ⟨N, by rw [g3, hN]⟩
      obtain ⟨N, hN⟩ := hgrow (m - k) (by omega)
      rw [show k + (m - k) = m by omega] at hN
      rw [hN]
      exact h2.2.2.2.1 hc G o N rfl rfl rfl
  · exact .inr ⟨h1, h2, rfl⟩

theorem region_any {C : Ctx} (hC : C.Ok) {G : Ent} {nt : Nat} {ops : Array Oper} {ap : List (Tmp × Tmp)} {E H E' H'} (hok : orderOk (clsO C) ap nt ops = true) (hap : Apart ap E')
    (ht : Tr C G.S.length G.W ops ops.toList E H E' H') {Q : Exit → Act → World → Prop} (hq : ∀ a w, St G nt E' H' a w → Q .normal a w) (a : Act) (w : World) (hs : St G nt E H a w) :
    wpAny C.P .any ops Q ops.size (Array.replicate ops.size false) a w.drew := by
  obtain ⟨Es, Hs, vs, e1, e2, e3, e4, e5⟩ := tr_run (k := 0) (l := ops.toList) (by simp) (by simp) ht
  have hrun : Run C.P G (clsO C) ap ops Es Hs vs := by
    refine ⟨fun k o ho => ?_, fun k o ho hc => ?_, fun k o ho hc => ?_, late_of (by rw [e3]; exact hap) (fun m o ho => e5 m o (Nat.zero_le _) ho), fun k o ho hc H => ?_, fun k o ho => (e5 k o (Nat.zero_le _) ho).2⟩
    · rcases (e5 k o (Nat.zero_le _) ho).1 with ⟨h1, h2⟩ | h
      · exact .inl ⟨h1, h2.1 G o rfl rfl rfl⟩
      · exact .inr h
    · rcases (e5 k o (Nat.zero_le _) ho).1 with ⟨h1, h2⟩ | h
      · exact h2.2.1 hc
      · exact h.2.2
    · rcases (e5 k o (Nat.zero_le _) ho).1 with ⟨h1, h2⟩ | h
      · exact h2.2.2.2.2.1 hc
      · exact ⟨[], by rw [h.2.2, List.append_nil]⟩
    · rcases (e5 k o (Nat.zero_le _) ho).1 with ⟨h1, h2⟩ | h
      · exact .inl ⟨h1, h2.2.2.1 hc G o H rfl rfl rfl⟩
      · exact .inr ⟨h.1, h.2.1, rfl⟩
  obtain ⟨hts, hdf, ρ, hi, he⟩ := hs
  refine order_sound hrun hok (nt := nt) (fun ρ a w h1 h2 h3 h4 => hq a w ⟨h1, h2, ρ, by rw [← e4]; exact h3, by rw [← e4, ← e3]; exact h4⟩) ops.size _ a _ ?_ ?_
  · simp
  · refine ⟨by simp, fun j o _ hl => ?_, hts, hdf, ρ, 0, Nat.zero_le _, fun i o _ _ => ?_, by rw [e2]; exact hi.drew, fun t => ⟨fun i o _ _ hl => ?_, fun _ => ?_⟩⟩
    · rw [getD_none] at hl; cases hl
    · rw [getD_none]; simp
    · rw [getD_none] at hl; cases hl
    · rw [e1, e2]; exact (he t).mono Ext.drew

def headD : List Oper → Option Tmp
  | [] => none
  | o :: _ => o.dst
def apAll : List (Tmp × Tmp) → Env → Prop
  | [], _ => True
  | (x, y) :: r, E => apB (look E x) (look E y) ∧ apAll r E
theorem apAll_spec {E : Env} : ∀ {ap : List (Tmp × Tmp)}, apAll ap E → Apart ap (look E)
  | [], _, p, hp => by simp at hp
  | (x, y) :: r, h, p, hp => by
    rcases List.mem_cons.1 hp with rfl | hp
    · exact h.1
    · exact apAll_spec h.2 p hp

/-! ### Orders that are left open -/
def altP (C : Ctx) (n : Nat) (W : List Nat) (ops : List Oper) (E : Env) (H : Heap) (Q : Env → Heap → Prop) : OT → Prop
  | .txt => aops C n W ops ops E H Q
  | .perm π => aops C n W ops (π.filterMap fun i => ops[i]?) E H Q
  | .split _ _ a b => altP C n W ops E H Q a ∧ altP C n W ops E H Q b
def altOk (cls : Oper → Cls) (ap : List (Tmp × Tmp)) (nt : Nat) : Array Oper → OT → Bool
  | ops, .txt => orderOk cls ap nt ops
  | ops, .perm π => permOk π ops.size && orderOk cls ap nt (permE π ops)
  | ops, .split i j a b => (i != j) && altOk cls ap nt (addE i j ops) a && altOk cls ap nt (addE j i ops) b

/-- The same operations, but for what they wait for. -/
structure Cur (base cur : Array Oper) : Prop where
  size : cur.size = base.size
  get : ∀ (k : Nat) (o : Oper), base[k]? = some o → ∃ af, cur[k]? = some { o with after := af }
theorem Cur.refl (ops : Array Oper) : Cur ops ops := ⟨rfl, fun k o h => ⟨o.after, h⟩⟩
theorem Cur.addE {base cur : Array Oper} (h : Cur base cur) (i j : Nat) : Cur base (addE i j cur) := by
  refine ⟨by rw [addE_size, h.size], fun k o ho => ?_⟩
  obtain ⟨af, haf⟩ := h.get k o ho
  rw [addE_get, haf]
  by_cases hk : k = j
  · exact ⟨af.push ⟨i, .data⟩, by simp [hk]⟩
  · exact ⟨af, by simp [hk]⟩
theorem Cur.dst {base cur : Array Oper} (h : Cur base cur) (k : Nat) : (cur[k]?).bind (·.dst) = (base[k]?).bind (·.dst) := by
  cases hk : base[k]? with
  | none =>
    have : cur[k]? = none := by rw [Array.getElem?_eq_none_iff] at hk ⊢; have := h.size; omega
    rw [this]
  | some o =>
    obtain ⟨af, haf⟩ := h.get k o hk
    rw [haf]; rfl

theorem Tr.conv {C : Ctx} {n : Nat} {W : List Nat} {ops ops2 : Array Oper} : ∀ {l l2 : List Oper} {E H E' H'}, Tr C n W ops l E H E' H' → l2.length = l.length →
    (∀ (k : Nat) (o : Oper), l[k]? = some o → ∃ o2, l2[k]? = some o2 ∧ o2.op = o.op ∧ o2.dst = o.dst ∧ ∀ E b, GuardIs ops o E b → GuardIs ops2 o2 E b) → Tr C n W ops2 l2 E H E' H'
  | [], l2, E, H, E', H', ht, hl, _ => by
    cases ht
    have : l2 = [] := List.eq_nil_of_length_eq_zero (by simpa using hl)
    subst this
    exact .nil _ _
  | o :: l, l2, E, H, E', H', ht, hl, h => by
    cases l2 with
    | nil => simp at hl
    | cons o2 l2 =>
      cases ht with
      | @cons _ _ _ _ v H1 _ _ h1 h2 =>
      obtain ⟨o2', e0, e1, e2, e3⟩ := h 0 o (by simp)
      simp at e0
      subst e0
      have hr := Tr.conv (ops2 := ops2) (l2 := l2) h2 (by simpa using hl) fun k o' hk => by simpa using h (k + 1) o' (by simpa using hk)
      rw [← e2] at hr
      refine .cons (v := v) (H1 := H1) ?_ hr
      rcases h1 with ⟨g1, g2⟩ | ⟨g1, g2, g3⟩
      · exact .inl ⟨e3 _ _ g1, by rw [e1]; exact g2⟩
      · exact .inr ⟨e3 _ _ g1, g2, g3⟩

theorem GuardIs.conv {ops ops2 : Array Oper} {o o2 : Oper} {f : Nat → Nat} (hg : o2.guard = o.guard.map fun g => (f g.1, g.2)) (hd : ∀ j, (ops2[f j]?).bind (·.dst) = (ops[j]?).bind (·.dst)) {E : Nat → AV} {b : Bool} (h : GuardIs ops o E b) : GuardIs ops2 o2 E b := by
  unfold GuardIs at *
  rw [hg]
  cases hq : o.guard with
  | none => rw [hq] at h; exact h
  | some g =>
    obtain ⟨j, want⟩ := g
    rw [hq] at h
    simp only [Option.map_some] at h ⊢
    rw [hd j]
    exact h

theorem pick_get {ops : Array Oper} {π : List Nat} (hp : Prm π ops.size) : (π.filterMap fun i => ops.toList[i]?) = π.map fun i => ops.getD i default := by
  have : ∀ l : List Nat, (∀ i ∈ l, i < ops.size) → (l.filterMap fun i => ops.toList[i]?) = l.map fun i => ops.getD i default := by
    intro l
    induction l with
    | nil => intro _; rfl
    | cons x l ih =>
      intro h
      have hx := h x (by simp)
      have ho : ops.toList[x]? = some ops[x] := by simp [hx]
      rw [List.filterMap_cons, ho]
      simp only [List.map_cons]
      rw [ih fun i hi => h i (by simp [hi])]
      simp [hx]
  exact this π hp.lt

theorem region_alt {C : Ctx} (hC : C.Ok) {G : Ent} {nt : Nat} {base : Array Oper} {ap : List (Tmp × Tmp)} {E : Env} {H : Heap} {R : Env → Heap → Prop} {Q : Exit → Act → World → Prop} (hq : ∀ E' H', R E' H' → ∀ a w, St G nt (look E') H' a w → Q .normal a w) :
    ∀ (t : OT) (cur : Array Oper), Cur base cur → altOk (clsO C) ap nt cur t = true → altP C G.S.length G.W base.toList E H (fun E H => apAll ap E ∧ R E H) t →
      ∀ l, LinExt cur (Array.replicate cur.size false) l → ∀ a w, St G nt (look E) H a w → wpOps C.P cur Q l a w.drew := by
  intro t
  induction t with
  | txt =>
    intro cur hcur hok h l hl a w hs
    obtain ⟨E', H', h1, h3, h2⟩ := aops_tr hC (show aops C G.S.length G.W base.toList base.toList E H _ from h)
    have h1' : Tr C G.S.length G.W cur cur.toList (look E) H (look E') H' := by
      refine Tr.conv h1 (by simpa using hcur.size) fun k o ho => ?_
      obtain ⟨af, haf⟩ := hcur.get k o (by simpa using ho)
      refine ⟨{ o with after := af }, by rw [Array.getElem?_toList]; exact haf, rfl, rfl, fun E b hg => GuardIs.conv (ops := base) (o := o) (f := id) ?_ (fun j => hcur.dst j) (by simpa using hg)⟩
      show o.guard = _
      cases o.guard <;> rfl
    exact wpAny_lin _ _ _ _ _ (region_any hC (by simpa [altOk] using hok) (apAll_spec h3) h1' (fun a w hs => hq E' H' h2 a w hs) a w hs) hl
  | perm π =>
    intro cur hcur hok h l hl a w hs
    simp only [altOk, Bool.and_eq_true] at hok
    have hp := permOk_spec hok.1
    have hpb : Prm π base.size := by rw [← hcur.size]; exact hp
    obtain ⟨E', H', h1, h3, h2⟩ := aops_tr hC (show aops C G.S.length G.W base.toList (π.filterMap fun i => base.toList[i]?) E H _ from h)
    have h1' : Tr C G.S.length G.W (permE π cur) (permE π cur).toList (look E) H (look E') H' := by
      rw [pick_get hpb] at h1
      refine Tr.conv h1 (by simp [permE_size hp, hp.len]) fun k o ho => ?_
      rw [List.getElem?_map] at ho
      cases hk : π[k]? with
      | none => rw [hk] at ho; cases ho
      | some i =>
        rw [hk] at ho
        have hi := hpb.lt i (List.mem_of_getElem? hk)
        have ho' : base[i]? = some o := by simpa [hi] using ho
        obtain ⟨af, haf⟩ := hcur.get i o ho'
        refine ⟨permO π { o with after := af }, ?_, rfl, rfl, fun E b hg => GuardIs.conv (ops := base) (o := o) (f := fun j => π.idxOf j) rfl (fun j => ?_) (by simpa using hg)⟩
        · rw [Array.getElem?_toList, permE_get hp, hk]
          simp [haf]
        · rw [permE_idx hp, ← hcur.dst j]
          cases cur[j]? <;> rfl
    have hany := region_any hC hok.2 (apAll_spec h3) h1' (Q := Q) (fun a w hs => hq E' H' h2 a w hs) a w hs
    have hl2 := hl.perm hp (by simp)
    rw [permL_start hp] at hl2
    rw [permE_size hp] at hany
    exact wpOps_perm hp l a _ (wpAny_lin _ _ _ _ _ hany hl2)
  | split i j x y ihx ihy =>
    intro cur hcur hok h l hl a w hs
    simp only [altOk, Bool.and_eq_true, bne_iff_ne, ne_eq] at hok
    obtain ⟨⟨hij, hx⟩, hy⟩ := hok
    rcases hl.two hij (by simp) with h1 | h1
    · exact wpOps_addE l a _ (ihx _ (hcur.addE i j) hx h.1 l (by rw [addE_size]; exact h1) a w hs)
    · exact wpOps_addE l a _ (ihy _ (hcur.addE j i) hy h.2 l (by rw [addE_size]; exact h1) a w hs)

theorem region_sound {C : Ctx} (hC : C.Ok) {G : Ent} {nt id : Nat} {ops : Array Oper} {ap : List (Tmp × Tmp)} {t : OT} {E : Env} {H : Heap} {R : Env → Heap → Prop} {Q : Exit → Act → World → Prop} (hok : altOk (clsO C) ap nt ops t = true)
    (h : altP C G.S.length G.W ops.toList E H (fun E H => apAll ap E ∧ R E H) t) (hq : ∀ E' H', R E' H' → ∀ a w, St G nt (look E') H' a w → Q .normal a w) (a : Act) (w : World) (hs : St G nt (look E) H a w) : (Code.region id ops true).wp C.P Q a w := by
  refine wp_region_draw fun t' => ?_
  simp only [Region.schedule, hC.mixed, Bool.true_or, if_true]
  exact region_alt hC hq t ops (.refl _) hok h _ (lin_ext _ _ _ (by simp) (by simp)) a w hs

theorem region_text {C : Ctx} {G : Ent} {nt id : Nat} {ops : Array Oper} {E H E' H'} (hok : dstOk nt ops.toList = true)
    (ht : Tr C G.S.length G.W ops ops.toList E H E' H') {Q : Exit → Act → World → Prop} (hq : ∀ a w, St G nt E' H' a w → Q .normal a w) : ∀ a w, St G nt E H a w → (Code.region id ops false).wp C.P Q a w := by
  intro a w hs
  refine wp_region ?_
  have := tr_wp hok (l := ops.toList) (k := 0) (by simp) ht hq a w hs
  rwa [Array.length_toList, ← List.range_eq_range'] at this

/-! ### Code -/
inductive AEx where
  | normal
  | ret
  | exit (n : Nat)

def AEx.toExit : AEx → Exit
  | .normal => .normal
  | .ret => .ret
  | .exit n => .exit n

/-- What a state may forget: temporaries, and blocks of the call's own, which may get other numbers. -/
def sg (n : Nat) (τ : List Nat) (i : Nat) : Nat := if i < n then i else n + τ.getD (i - n) 0

def BlkW (σ : Nat → Nat) (m : Nat) : Blk → Blk → Prop
  | .data s v, B => B = .data s v
  | .seq wr e l, B => ∃ wr' l', B = .seq wr' e l' ∧ l <+: l' ∧ (wr = true → wr' = true)
  | .win o e l, B => B = .win o e l
  | .ref x, B => inScope m x ∧ B = .ref (ren σ x)
  | .mpb o, B => B = .mpb o
  | .dead _, _ => False

def tailW (σ : Nat → Nat) (m : Nat) (L : Heap) : List Nat → Heap → Prop
  | [], [] => True
  | k :: τ, B :: L' => onSome L[k]? (BlkW σ m B) ∧ tailW σ m L τ L'
  | _, _ => False

def envW (σ : Nat → Nat) (m : Nat) (E : Env) : Env → Prop
  | [] => True
  | (t, v) :: r => (inScope m v ∧ look E t = ren σ v) ∧ envW σ m E r

def headW (n : Nat) (A : Heap) : Prop := ∀ (i : Nat) (x : AV), A[i]? = some (Blk.ref x) → inScope n x ∧ ∀ σ : Nat → Nat, (∀ i, i < n → σ i = i) → ren σ x = x

structure HeapW (n : Nat) (H H' : Heap) (σ : Nat → Nat) : Prop where
  ex : ∃ A L L' τ, H = A ++ L ∧ A.length = n ∧ H' = A ++ L' ∧ τ.Nodup ∧ headW n A ∧ σ = sg n τ ∧ tailW σ H'.length L τ L'

def WeakS (n : Nat) (E : Env) (H : Heap) (E' : Env) (H' : Heap) : Prop := ∃ σ, HeapW n H H' σ ∧ envW σ H'.length E E'

theorem tailW_get {σ m L} : ∀ {τ : List Nat} {L' : Heap}, tailW σ m L τ L' → τ.length = L'.length ∧ ∀ j B, L'[j]? = some B → ∃ B0, L[τ.getD j 0]? = some B0 ∧ BlkW σ m B B0
  | [], [], _ => ⟨rfl, fun j B h => by simp at h⟩
  | [], _ :: _, h => h.elim
  | _ :: _, [], h => h.elim
  | k :: τ, B :: L', h => by
    obtain ⟨h1, h2⟩ := h
    obtain ⟨h3, h4⟩ := tailW_get h2
    obtain ⟨B0, h5, h6⟩ := onSome_spec h1
    refine ⟨by simp [h3], fun j B' hj => ?_⟩
    cases j with
    | zero => simp at hj; subst hj; exact ⟨B0, by simpa using h5, h6⟩
    | succ j => simpa using h4 j B' (by simpa using hj)

theorem BlkW_sh {σ m B B0} (h : BlkW σ m B B0) : B.sh = B0.sh := by
  cases B with
  | data s v => simp only [BlkW] at h; subst h; rfl
  | seq wr e l => obtain ⟨_, _, rfl, _⟩ := h; rfl
  | win o e l => simp only [BlkW] at h; subst h; first | rfl | exact hw
  | ref x => obtain ⟨_, rfl⟩ := h; rfl
  | mpb o => simp only [BlkW] at h; subst h; first | rfl | exact hw
  | dead s => exact h.elim
theorem BlkW_lv {σ m B B0} (h : BlkW σ m B B0) : B0.lv = true := by
  cases B with
  | data s v => simp only [BlkW] at h; subst h; rfl
  | seq wr e l => obtain ⟨_, _, rfl, _⟩ := h; rfl
  | win o e l => simp only [BlkW] at h; subst h; first | rfl | exact hw
  | ref x => obtain ⟨_, rfl⟩ := h; rfl
  | mpb o => simp only [BlkW] at h; subst h; first | rfl | exact hw
  | dead s => exact h.elim
theorem BlkW_wr {σ m B B0} (h : BlkW σ m B B0) (hw : B.wr = true) : B0.wr = true := by
  cases B with
  | data s v => simp only [BlkW] at h; subst h; rfl
  | seq wr e l => obtain ⟨wr', _, rfl, _, h⟩ := h; exact h hw
  | win o e l => simp only [BlkW] at h; subst h; first | rfl | exact hw
  | ref x => obtain ⟨_, rfl⟩ := h; rfl
  | mpb o => simp only [BlkW] at h; subst h; first | rfl | exact hw
  | dead s => exact h.elim

theorem prefix_flatMap {e : Sh} {l l' : List DV} (h : l <+: l') : l.flatMap (flat e) <+: l'.flatMap (flat e) := by
  obtain ⟨t, rfl⟩ := h
  rw [List.flatMap_append]
  exact List.prefix_append _ _

mutual
theorem inScope_mono {m m' : Nat} (hm : m ≤ m') : ∀ {a : AV}, inScope m a → inScope m' a
  | .int _ _, _ => trivial
  | .bool _, _ => trivial
  | .str _, _ => trivial
  | .agg _ _, _ => trivial
  | .nilp, _ => trivial
  | .nils, _ => trivial
  | .wz, _ => trivial
  | .junk, _ => trivial
  | .raw _, _ => trivial
  | .mp _, h => Nat.lt_of_lt_of_le h hm
  | .ptr _ _ _, h => Nat.lt_of_lt_of_le h hm
  | .rptr _, h => Nat.lt_of_lt_of_le h hm
  | .slc _ _ _, h => Nat.lt_of_lt_of_le h hm
  | .wsl _ _, h => Nat.lt_of_lt_of_le h hm
  | .slk _ _ _ _, h => Nat.lt_of_lt_of_le h hm
  | .fn _ _ _, h => ⟨inScopes_mono hm h.1, inScopes_mono hm h.2⟩
  | .tup _, h => inScopes_mono hm h
theorem inScopes_mono {m m' : Nat} (hm : m ≤ m') : ∀ {a : List AV}, inScopes m a → inScopes m' a
  | [], _ => trivial
  | _ :: _, h => ⟨inScope_mono hm h.1, inScopes_mono hm h.2⟩
end

/-- What may be forgotten is sound to forget. -/
theorem HeapW.sound {n : Nat} {H H' : Heap} {σ : Nat → Nat} {G : Ent} {ρ : Nat → Nat} {w : World} (hn : G.S.length = n) (h : HeapW n H H' σ) (hi : Inv G ρ H w) :
    Inv G (fun i => ρ (σ i)) H' w ∧ ∀ {v x}, inScope H'.length v → Rv ρ (shs H) w (ren σ v) x → Rv (fun i => ρ (σ i)) (shs H') w v x := by
  obtain ⟨A, L, L', τ, rfl, hA, rfl, hnd, hhd, hσ, hT⟩ := h.ex
  obtain ⟨hlen, hget⟩ := tailW_get hT
  have hσlt : ∀ i, i < n → σ i = i := fun i hi => by rw [hσ]; simp [sg, hi]
  have hσge : ∀ i, n ≤ i → σ i = n + τ.getD (i - n) 0 := fun i hi => by rw [hσ]; simp [sg]; omega
  have hcase : ∀ i B, (A ++ L')[i]? = some B → (i < n ∧ A[i]? = some B) ∨ (n ≤ i ∧ ∃ B0, (A ++ L)[σ i]? = some B0 ∧ BlkW σ (A ++ L').length B B0) := by
    intro i B hi
    rcases Nat.lt_or_ge i n with h | h
    · rw [List.getElem?_append_left (by omega)] at hi; exact .inl ⟨h, hi⟩
    · rw [List.getElem?_append_right (by omega), hA] at hi
      obtain ⟨B0, h1, h2⟩ := hget _ _ hi
      refine .inr ⟨h, B0, ?_, h2⟩
      rw [hσge i h, List.getElem?_append_right (by omega), hA, Nat.add_sub_cancel_left]
      exact h1
  have hAl : Along σ (A ++ L').length (shs (A ++ L)) (shs (A ++ L')) := by
    intro b hb
    have hB : (A ++ L')[b]? = some (A ++ L')[b] := by simp
    rcases hcase b _ hB with ⟨h1, h2⟩ | ⟨h1, B0, h2, h3⟩
    · rw [hσlt b h1, shs_get hB]
      exact shs_get (by rw [List.getElem?_append_left (by omega)]; exact h2)
    · rw [shs_get h2, shs_get hB, BlkW_sh h3]
  have hinj : ∀ i j, i < (A ++ L').length → j < (A ++ L').length → σ i = σ j → i = j := by
    intro i j hi' hj' he
    simp only [List.length_append, hA] at hi' hj'
    rcases Nat.lt_or_ge i n with h1 | h1 <;> rcases Nat.lt_or_ge j n with h2 | h2
    · rwa [hσlt i h1, hσlt j h2] at he
    · rw [hσlt i h1, hσge j h2] at he; omega
    · rw [hσge i h1, hσlt j h2] at he; omega
    · rw [hσge i h1, hσge j h2] at he
      have hi2 : i - n < τ.length := by omega
      have hj2 : j - n < τ.length := by omega
      have he' : τ[i - n] = τ[j - n] := by
        simp only [List.getD_eq_getElem?_getD, List.getElem?_eq_getElem hi2, List.getElem?_eq_getElem hj2, Option.getD_some] at he
        omega
      have hpw := List.pairwise_iff_getElem.1 hnd
      rcases Nat.lt_trichotomy (i - n) (j - n) with h | h | h
      · exact absurd he' (hpw _ _ hi2 hj2 h)
      · omega
      · exact absurd he'.symm (hpw _ _ hj2 hi2 h)
  have hRv : ∀ {v x}, inScope (A ++ L').length v → Rv ρ (shs (A ++ L)) w (ren σ v) x → Rv (fun i => ρ (σ i)) (shs (A ++ L')) w v x := fun hs hr => Rv_unren hAl hs hr
  refine ⟨⟨⟨?_, ?_⟩, hi.os, hi.tape, hi.out, hi.size, hi.old, hi.sz, fun i hlt => ?_, fun i h1 h2 hK => ?_, ?_⟩, hRv⟩
  · intro i B hB
    rcases hcase i B hB with ⟨h1, h2⟩ | ⟨h1, B0, h2, h3⟩
    · have hB' : (A ++ L)[i]? = some B := by rw [List.getElem?_append_left (by omega)]; exact h2
      have hr := hi.rel.blk i B hB'
      show RB _ _ w B w.heap[ρ (σ i)]?
      rw [hσlt i h1]
      cases B with
      | ref x =>
        obtain ⟨v, T, h4, h5⟩ := hr
        obtain ⟨h6, h7⟩ := hhd i x h2
        refine ⟨v, T, h4, hRv ?_ (by rw [h7 σ hσlt]; exact h5)⟩
        exact inScope_mono (by simp; omega) h6
      | _ => exact hr
    · have hr := hi.rel.blk _ B0 h2
      cases B with
      | win o e l => simp only [BlkW] at h3; subst h3; exact hr
      | mpb o => simp only [BlkW] at h3; subst h3; exact hr
      | data s v => simp only [BlkW] at h3; subst h3; exact hr
      | seq wr e l =>
        obtain ⟨wr', l', rfl, hp, hw⟩ := h3
        obtain ⟨h4, c, T, fz, h5, h6, h7⟩ := hr
        exact ⟨fun x hx => h4 x (hp.subset hx), c, T, fz, h5, (prefix_flatMap hp).trans h6, fun h => h7 (hw h)⟩
      | ref x =>
        obtain ⟨hs, rfl⟩ := h3
        obtain ⟨v, T, h4, h5⟩ := hr
        exact ⟨v, T, h4, hRv hs h5⟩
      | dead s => exact h3.elim
  · intro i j B D hB hD hne hw hl
    have hne' : σ i ≠ σ j := fun e => hne (hinj i j (get_lt hB) (get_lt hD) e)
    have p1 : ∃ B0, (A ++ L)[σ i]? = some B0 ∧ B0.wr = true := by
      rcases hcase i B hB with ⟨h1, h2⟩ | ⟨h1, B0, h2, h3⟩
      · exact ⟨B, by rw [hσlt i h1, List.getElem?_append_left (by omega)]; exact h2, hw⟩
      · exact ⟨B0, h2, BlkW_wr h3 hw⟩
    have p2 : ∃ D0, (A ++ L)[σ j]? = some D0 ∧ D0.lv = true := by
      rcases hcase j D hD with ⟨h1, h2⟩ | ⟨h1, B0, h2, h3⟩
      · exact ⟨D, by rw [hσlt j h1, List.getElem?_append_left (by omega)]; exact h2, hl⟩
      · exact ⟨B0, h2, BlkW_lv h3⟩
    obtain ⟨B0, h1, h2⟩ := p1
    obtain ⟨D0, h3, h4⟩ := p2
    exact hi.rel.sep _ _ B0 D0 h1 h3 hne' h2 h4
  · rw [hn] at hlt; rw [hσlt i hlt]; exact hi.pre i (by omega)
  · rw [hn] at h1
    have h3 : i - n < τ.length := by simp [hA] at h2; omega
    have hB : (A ++ L')[i]? = some (A ++ L')[i] := by simp
    rcases hcase i _ hB with ⟨h4, _⟩ | ⟨_, B0, h5, _⟩
    · omega
    · exact hi.new (σ i) (by rw [hσge i h1]; omega) (get_lt h5) hK
  · have h1 := hi.sh
    rw [shs_append] at h1 ⊢
    have h2 : G.S = shs A := by
      have h3 : G.S <+: shs A := List.prefix_of_prefix_length_le h1 (List.prefix_append _ _) (by rw [shs_length]; omega)
      exact h3.eq_of_length (by rw [shs_length]; omega)
    rw [h2]
    exact List.prefix_append _ _

theorem WeakS.sound {n : Nat} {E E' : Env} {H H' : Heap} {G : Ent} {nt : Nat} {a : Act} {w : World} (hn : G.S.length = n) (h : WeakS n E H E' H') (hs : St G nt (look E) H a w) : St G nt (look E') H' a w := by
  obtain ⟨σ, hW, hE⟩ := h
  obtain ⟨hts, hdf, ρ, hi, he⟩ := hs
  obtain ⟨hi', hR⟩ := hW.sound hn hi
  refine ⟨hts, hdf, _, hi', ?_⟩
  clear hW hi'
  induction E' with
  | nil => exact fun t => trivial
  | cons x E' ih =>
    obtain ⟨s, v⟩ := x
    obtain ⟨⟨h1, h2⟩, h3⟩ := hE
    intro t
    simp only [look]
    by_cases hst : s = t
    · subst hst
      rw [if_pos rfl]
      exact hR h1 (by rw [← h2]; exact he s)
    · rw [if_neg hst]
      exact ih h3 t

/-! ### Code -/
def thenQ (k : Env → Heap → Prop) (Q : AEx → Env → Heap → Prop) : AEx → Env → Heap → Prop
  | .normal => k
  | x => Q x
def blockQ (id : Nat) (Q : AEx → Env → Heap → Prop) : AEx → Env → Heap → Prop
  | .exit m => if m = id then Q .normal else Q (.exit m)
  | x => Q x

def acode (C : Ctx) (n : Nat) (W : List Nat) : Code → Env → Heap → (AEx → Env → Heap → Prop) → Prop
  | .skip, E, H, Q => Q .normal E H
  | .region id ops draw, E, H, Q => if draw then altP C n W ops.toList E H (fun E H => apAll (C.ap id (headD ops.toList)) E ∧ Q .normal E H) (C.alt id (headD ops.toList) ops.size) else aops C n W ops.toList ops.toList E H (Q .normal)
  | .seq a b, E, H, Q => acode C n W a E H (thenQ (fun E H => acode C n W b E H Q) Q)
  | .cond c a b, E, H, Q => onB (ev (look E) c) fun t => gsplit t fun t' => if t' then acode C n W a E H Q else acode C n W b E H Q
  | .block id c, E, H, Q => acode C n W c E H (blockQ id Q)
  | .loop c, E, H, Q => ∃ (ι : Type) (p : ι → Prop) (μ : ι → Nat) (EE : ι → Env) (HH : ι → Heap), (∃ i, p i ∧ WeakS n E H (EE i) (HH i)) ∧
      ∀ i, p i → acode C n W c (EE i) (HH i) (thenQ (fun E' H' => ∃ j, p j ∧ μ j < μ i ∧ WeakS n E' H' (EE j) (HH j)) Q)
  | .exit m, E, H, Q => Q (.exit m) E H
  | .ret, E, H, Q => Q .ret E H
  | _, _, _, _ => False

def codeOk (C : Ctx) (nt : Nat) : Code → Bool
  | .region id ops draw => if draw then altOk (clsO C) (C.ap id (headD ops.toList)) nt ops (C.alt id (headD ops.toList) ops.size) else dstOk nt ops.toList
  | .seq a b => codeOk C nt a && codeOk C nt b
  | .cond _ a b => codeOk C nt a && codeOk C nt b
  | .block _ c => codeOk C nt c
  | .loop c => codeOk C nt c
  | .skip => true
  | .exit _ => true
  | .ret => true
  | .rangeFunc _ _ _ _ => true
  | _ => false

theorem exists_least (p : Nat → Prop) : ∀ n, p n → ∃ k, p k ∧ ∀ m, p m → k ≤ m := by
  intro n
  induction n using Nat.strongRecOn with
  | _ n ih =>
    intro hn
    by_cases h : ∃ m, m < n ∧ p m
    · obtain ⟨m, h1, h2⟩ := h
      exact ih m h1 h2
    · exact ⟨n, hn, fun m hm => Nat.le_of_not_lt fun hl => h ⟨m, hl, hm⟩⟩

def postQ (G : Ent) (nt : Nat) (Q : AEx → Env → Heap → Prop) : Exit → Act → World → Prop := fun e a w => ∃ x E H, e = x.toExit ∧ Q x E H ∧ St G nt (look E) H a w

theorem acode_sound {C : Ctx} (hC : C.Ok) {G : Ent} {nt : Nat} : ∀ {c : Code} {E : Env} {H : Heap} {Q : AEx → Env → Heap → Prop}, codeOk C nt c = true → acode C G.S.length G.W c E H Q →
    ∀ a w, St G nt (look E) H a w → c.wp C.P (postQ G nt Q) a w := by
  intro c
  induction c with
  | skip => intro E H Q _ h a w hs; exact wp_skip ⟨.normal, E, H, rfl, h, hs⟩
  | region id ops draw =>
    intro E H Q hok h a w hs
    cases draw with
    | false =>
      obtain ⟨E', H', h1, h2⟩ := aops_tr hC (show aops C G.S.length G.W ops.toList ops.toList E H (Q .normal) from h)
      exact region_text (by simpa [codeOk] using hok) h1 (fun a w hs => ⟨.normal, E', H', rfl, h2, hs⟩) a w hs
    | true =>
      refine region_sound hC (R := Q .normal) (ap := C.ap id (headD ops.toList)) (t := C.alt id (headD ops.toList) ops.size) (by simpa [codeOk] using hok) ?_ (fun E' H' hq a w hs => ⟨.normal, E', H', rfl, hq, hs⟩) a w hs
      simpa [acode] using h
  | seq x y ihx ihy =>
    intro E H Q hok h a w hs
    simp only [codeOk, Bool.and_eq_true] at hok
    refine wp_seq (wp_mono (ihx hok.1 h a w hs) ?_)
    rintro e a w ⟨x, E, H, rfl, hq, hs⟩
    cases x with
    | normal => exact ihy hok.2 hq a w hs
    | ret => exact ⟨.ret, E, H, rfl, hq, hs⟩
    | exit m => exact ⟨.exit m, E, H, rfl, hq, hs⟩
  | cond c x y ihx ihy =>
    intro E H Q hok h a w hs
    simp only [codeOk, Bool.and_eq_true] at hok
    obtain ⟨b, hb, h1, h2⟩ := onB_spec (show onB _ _ from h)
    have hv : a.eval c = .bool b := by
      obtain ⟨_, _, ρ, _, he⟩ := hs
      have : Rv ρ (shs H) w (ev (look E) c) (a.eval c) := by
        cases c with
        | tmp t => exact he t
        | const v =>
          have : EnvOn ρ (shs H) w (.move (.const v)) (look E) a := fun t ht => by simp [opTmps, Op.operands] at ht
          exact this.ev (by simp [Op.operands])
        | global g => trivial
        | func f => exact ⟨[], [], rfl, trivial, trivial⟩
      rw [hb] at this
      exact this
    refine wp_cond hv ?_
    cases b
    · exact ihy hok.2 (by have := h2 rfl; exact this) a w hs
    · exact ihx hok.1 (by have := h1 rfl; exact this) a w hs
  | block id c ih =>
    intro E H Q hok h a w hs
    refine wp_block (wp_mono (ih hok h a w hs) ?_)
    rintro e a w ⟨x, E, H, rfl, hq, hs⟩
    cases x with
    | normal => exact ⟨.normal, E, H, rfl, hq, hs⟩
    | ret => exact ⟨.ret, E, H, rfl, hq, hs⟩
    | exit m =>
      simp only [blockQ] at hq
      simp only [AEx.toExit, Exit.inBlock]
      by_cases hm : m = id
      · rw [if_pos hm] at hq ⊢; exact ⟨.normal, E, H, rfl, hq, hs⟩
      · rw [if_neg hm] at hq ⊢; exact ⟨.exit m, E, H, rfl, hq, hs⟩
  | loop c ih =>
    intro E H Q hok h a w hs
    obtain ⟨ι, p, μ, EE, HH, ⟨i0, hp0, hw0⟩, hround⟩ := h
    let I : Nat → Act → World → Prop := fun k a w => ∃ i, μ i = k ∧ p i ∧ St G nt (look (EE i)) (HH i) a w
    have hleast : ∀ a w, (∃ k, I k a w) → ∃ k, I k a w ∧ ∀ m, I m a w → k ≤ m := fun a w ⟨k, hk⟩ => exists_least (fun k => I k a w) k hk
    let ν : Act → World → Nat := fun a w => by classical exact if h : ∃ k, I k a w then Classical.choose (hleast a w h) else 0
    have hν : ∀ a w (h : ∃ k, I k a w), I (ν a w) a w ∧ ∀ m, I m a w → ν a w ≤ m := by
      intro a w h
      have : ν a w = Classical.choose (hleast a w h) := by simp only [ν]; rw [dif_pos h]
      rw [this]
      exact Classical.choose_spec (hleast a w h)
    refine wp_loop (fun a w => ∃ k, I k a w) ν ⟨μ i0, i0, rfl, hp0, hw0.sound rfl hs⟩ ?_
    intro a w hI
    obtain ⟨⟨i, hi1, hi2, hi3⟩, _⟩ := hν a w hI
    refine wp_mono (ih hok (hround i hi2) a w hi3) ?_
    rintro e a' w' ⟨x, E, H, rfl, hq, hs⟩
    cases x with
    | normal =>
      obtain ⟨j, hj1, hj2, hj3⟩ := hq
      have hI' : I (μ j) a' w' := ⟨j, rfl, hj1, hj3.sound rfl hs⟩
      refine ⟨⟨μ j, hI'⟩, ?_⟩
      have := (hν a' w' ⟨μ j, hI'⟩).2 (μ j) hI'
      omega
    | ret => exact ⟨.ret, E, H, rfl, hq, hs⟩
    | exit m => exact ⟨.exit m, E, H, rfl, hq, hs⟩
  | exit m => intro E H Q _ h a w hs; exact wp_exit ⟨.exit m, E, H, rfl, h, hs⟩
  | ret => intro E H Q _ h a w hs; exact wp_ret ⟨.ret, E, H, rfl, h, hs⟩
  | _ => intro E H Q _ h; exact h.elim

/-! ### Functions -/
def ares (C : Ctx) (E : Env) (H : Heap) : List ResultVar → (List AV → Prop) → Prop
  | [], k => k []
  | .tmp t :: r, k => ares C E H r fun l => k (look E t :: l)
  | .cell x t :: r, k => onAddr (look E x) (fun b p τ => C.ty t = some τ ∧ onSome H[b]? fun B => onSome (B.get? p) fun v => ares C E H r fun l => k (ofD τ v :: l))
      (fun b => (C.rf t).isSome = true ∧ onRef H[b]? fun v => ares C E H r fun l => k (v :: l))

def one : List AV → AV
  | [v] => v
  | l => .tup l

/-- What a call hands back, and what is left of its heap. -/
def fin (n : Nat) (v : AV) (H : Heap) (v' : AV) (H' : Heap) : Prop := ∃ σ, HeapW n H H' σ ∧ inScope H'.length v' ∧ v = ren σ v'

def argE : List AV → Nat → Env
  | [], _ => []
  | v :: l, k => (k, v) :: argE l (k + 1)

def finQ (C : Ctx) (rs : List ResultVar) (n : Nat) (v : AV) (H : Heap) : AEx → Env → Heap → Prop
  | .exit _, _, _ => False
  | _, E, H' => ares C E H' rs fun l => fin n (one l) H' v H

theorem look_argE {args : List AV} : ∀ {k t : Nat}, look (argE args k) t = if k ≤ t then args.getD (t - k) .junk else .junk := by
  induction args with
  | nil => intro k t; simp [argE, look]
  | cons v l ih =>
    intro k t
    simp only [argE, look]
    by_cases h : k = t
    · subst h; simp
    · rw [if_neg h, ih]
      by_cases h1 : k + 1 ≤ t
      · rw [if_pos h1, if_pos (by omega), show t - k = (t - (k + 1)) + 1 by omega]; simp
      · rw [if_neg h1, if_neg (by omega)]

theorem Rvs_get {ρ S w} : ∀ {l : List AV} {x : List Value} (i : Nat), Rvs ρ S w l x → l.length = x.length ∧ Rv ρ S w (l.getD i .junk) (x.getD i undef)
  | [], [], i, _ => ⟨rfl, by simp [Rv]⟩
  | _ :: _, _ :: _, 0, h => ⟨by simp [(Rvs_get 0 h.2).1], by simpa using h.1⟩
  | _ :: _, _ :: _, i + 1, h => ⟨by simp [(Rvs_get i h.2).1], by simpa using (Rvs_get i h.2).2⟩
  | [], _ :: _, _, h => h.elim
  | _ :: _, [], _, h => h.elim

def resOne (tmps : Array Value) : ResultVar → Sem Value
  | .tmp t => pure (tmps.getD t undef)
  | .cell a t => do loadVar t (← asAddr (tmps.getD a undef))

theorem results_eq (fn : Func) (tmps : Array Value) : results fn tmps = (do let vs ← fn.results.mapM (resOne tmps); pure (if h : vs.size = 1 then vs[0] else .tuple vs)) := rfl

theorem ares_sound {C : Ctx} (hC : C.Ok) {G : Ent} {ρ : Nat → Nat} {H : Heap} {w : World} {E : Env} {tmps : Array Value} (hi : Inv G ρ H w) (he : ∀ t, Rv ρ (shs H) w (look E t) (tmps.getD t undef)) :
    ∀ {rs : List ResultVar} {k : List AV → Prop}, ares C E H rs k → ∃ l vs, (rs.mapM (resOne tmps)).run C.P w = .ok vs w ∧ Rvs ρ (shs H) w l vs ∧ k l
  | [], k, h => ⟨[], [], rfl, trivial, h⟩
  | .tmp t :: rs, k, h => by
    obtain ⟨l, vs, h1, h2, h3⟩ := ares_sound hC hi he (rs := rs) h
    exact ⟨look E t :: l, tmps.getD t undef :: vs, by rw [List.mapM_cons]; simp [Sem.run_bind, h1, resOne], ⟨he t, h2⟩, h3⟩
  | .cell x t :: rs, k, h => by
    have hx := he x
    rcases onAddr_spec (show onAddr _ _ _ from h) with ⟨b, p, τ, h1, h2, h3⟩ | ⟨b, h1, h2, h3⟩
    · obtain ⟨B, h4, h5⟩ := onSome_spec h3
      obtain ⟨v, h6, h7⟩ := onSome_spec h5
      obtain ⟨l, vs, k1, k2, k3⟩ := ares_sound hC hi he (rs := rs) h7
      rw [h1] at hx
      obtain ⟨s, off, e1, e2, e3⟩ := hx
      have : s = B.sh := by rw [shs_get h4] at e1; exact (Option.some.inj e1).symm
      subst this
      obtain ⟨c, T, fz, hc, hh, hl⟩ := blk_get (hi.rel.blk b B h4) e2 h6
      refine ⟨ofD τ v :: l, enc τ v :: vs, ?_, ⟨Rv_ofD hh, k2⟩, k3⟩
      rw [List.mapM_cons]
      have e3' := e3
      simp only [Array.getD_eq_getD_getElem?] at e3'
      simp [Sem.run_bind, resOne, e3', asAddr, run_loadVar hc (hC.ty _ _ h2) hh hl, k1]
    · obtain ⟨v, h4, h5⟩ := onRef_spec h3
      obtain ⟨l, vs, k1, k2, k3⟩ := ares_sound hC hi he (rs := rs) h5
      rw [h1] at hx
      obtain ⟨_, e3⟩ := hx
      obtain ⟨u, T, hc, hh⟩ := hi.rel.blk b _ h4
      obtain ⟨z, hz⟩ := Option.isSome_iff_exists.1 h2
      obtain ⟨d, i, hd, hi1, hi2, _, hdd⟩ := hC.rf _ _ hz
      have hcell : w.cell? ⟨ρ b, 0, none⟩ = some u := by rw [cell_of_row w _ _ _ _ _ hc]; rfl
      have hagg : (isAgg t).run C.P w = .ok false w := by
        unfold isAgg
        rw [Sem.run_bind, run_underlying hd w]
        cases d <;> first | rfl | cases hdd
      refine ⟨v :: l, u :: vs, ?_, ⟨hh, k2⟩, k3⟩
      rw [List.mapM_cons]
      have e3' := e3
      simp only [Array.getD_eq_getD_getElem?] at e3'
      simp [Sem.run_bind, resOne, e3', asAddr, loadVar, hagg, hcell, k1]

theorem acall_of_body {C : Ctx} (hC : C.Ok) {f : FuncId} {fn : Func} {c : Code} {W : List Nat} {args : List AV} {H H' : Heap} {v : AV} (hf : C.P.funcs[f]? = some fn) (hb : fn.body = some c)
    (hname : (fn.name == "runtime.NumGoroutine") = false) {rs : List ResultVar} (hrs : fn.results.toList = rs) (hok : codeOk C fn.ntmps c = true) (hargs : args.length ≤ fn.ntmps)
    (h : acode C H.length W c (argE args 0) H (finQ C rs H.length v H')) : ACall C.P W f args H v H' := by
  subst hrs
  refine ⟨⟨fn, hf, hname, by simp [hb]⟩, fun ρ w vs hrel hvs => ?_⟩
  let G : Ent := ⟨ρ, w, shs H, W, fun _ => True, []⟩
  have hn : G.S.length = H.length := shs_length
  have hlen := (Rvs_get 0 hvs).1
  have hinv : Inv G ρ H w := ⟨hrel, rfl, rfl, rfl, Nat.le_refl _, fun _ _ _ _ => rfl, fun _ => Nat.le_refl _, fun _ _ => rfl, fun i h1 h2 _ => by rw [hn] at h1; omega, List.prefix_refl _⟩
  have hst : St G fn.ntmps (look (argE args 0)) H { tmps := vs.toArray ++ Array.replicate (fn.ntmps - vs.toArray.size) undef, defers := [] } w := by
    refine ⟨by simp; omega, rfl, ρ, hinv, fun t => ?_⟩
    rw [look_argE]
    simp only [Nat.zero_le, if_true, Nat.sub_zero]
    have h1 := (Rvs_get t hvs).2
    by_cases ht : t < vs.length
    · have : (vs.toArray ++ Array.replicate (fn.ntmps - vs.toArray.size) undef).getD t undef = vs.getD t undef := by
        simp [Array.getElem?_append, ht, List.getD]
      rw [this]; exact h1
    · have : args.getD t .junk = .junk := by simp [List.getD, List.getElem?_eq_none (show args.length ≤ t by omega)]
      rw [this]; trivial
  refine calls_of_wp hf hb ?_
  rw [← hn] at h
  refine wp_mono (acode_sound hC hok h _ _ hst) ?_
  rintro e a w' ⟨x, E, H2, rfl, hq, hts, hdf, ρ2, hi, he⟩
  have main : ares C E H2 fn.results.toList (fun l => fin G.S.length (one l) H2 v H') → a.defers = [] ∧ ∃ x, (results fn a.tmps).run C.P w' = .ok x w' ∧ ∃ y ρ', Ending.returned x = Ending.returned y ∧ Inv ⟨ρ, w, shs H, W, fun _ => True, []⟩ ρ' H' w' ∧ Rv ρ' (shs H') w' v y := by
    intro hr
    obtain ⟨l, xs, h1, h2, σ, h3, h4, h5⟩ := ares_sound hC hi he hr
    obtain ⟨h6, h7⟩ := h3.sound rfl hi
    have hres : ∃ y, (results fn a.tmps).run C.P w' = .ok y w' ∧ Rv ρ2 (shs H2) w' (one l) y := by
      rw [results_eq]
      have hm : (fn.results.mapM (resOne a.tmps)).run C.P w' = .ok xs.toArray w' := by
        rw [Array.mapM_eq_mapM_toList, Sem.run_map]
        rw [h1]
        rfl
      rw [Sem.run_bind, hm]
      simp only [Result.andThen_ok, Sem.run_pure]
      have hlen2 := (Rvs_get 0 h2).1
      by_cases hl1 : xs.toArray.size = 1
      · rw [dif_pos hl1]
        match l, xs, h2 with
        | [v], [x], h2 => exact ⟨x, rfl, h2.1⟩
        | [], [], h2 => simp at hl1
        | _ :: _ :: _, _ :: _ :: _, h2 => simp at hl1
      · rw [dif_neg hl1]
        refine ⟨_, rfl, ?_⟩
        match l, xs, h2 with
        | [v], [x], h2 => simp at hl1
        | [], [], h2 => exact ⟨[], rfl, trivial⟩
        | a :: b :: l, x :: y :: xs, h2 => exact ⟨x :: y :: xs, rfl, h2⟩
    obtain ⟨y, hy1, hy2⟩ := hres
    exact ⟨hdf, y, hy1, y, _, rfl, h6, h7 h4 (by rw [← h5]; exact hy2)⟩
  rw [hn] at main
  cases x with
  | normal => rw [hn] at hq; exact main hq
  | ret => rw [hn] at hq; exact main hq
  | exit m => exact hq.elim
end Ink
/- The evaluator's equations, for 'simp only'. No conditions. -/
set_option linter.unusedVariables false
namespace Ink
open Go
section
variable {C : Ctx} {n : Nat} {W : List Nat} {ops : List Oper} {r : List Oper} {E : Env} {H : Heap} {Q : Env → Heap → Prop} {R : AEx → Env → Heap → Prop} {K : AV → Heap → Prop} {F : Tmp → AV}

def mk {α : Sort _} (a : α) : α := a
theorem z02 {α : Sort _} {a : α} : mk a = a := by
  have h : mk a = a ∧ True := ⟨by unfold mk; rfl, trivial⟩
  exact h.1
def force {α : Type} (a : α) (k : α → Prop) : Prop := k a
theorem z2p {α : Type} {a : α} {k : α → Prop} : force a k = k a := by unfold force; rfl
@[congr] theorem g_force {α : Type} {a a' : α} {k : α → Prop} (h : mk a = a') : force a k = force a' k := by rw [← h]; rfl
def apIf (l : List (Tmp × Tmp)) (E : Env) (p : Prop) : Prop := apAll l E ∧ p
def gIf (b w : Bool) (x y : Prop) : Prop := if b = w then x else y
theorem z2t {x y} : gIf true true x y = x := by unfold gIf; simp
theorem z2s {x y} : gIf true false x y = y := by unfold gIf; simp
theorem z2r {x y} : gIf false true x y = y := by unfold gIf; simp
theorem z2q {x y} : gIf false false x y = x := by unfold gIf; simp
@[congr] theorem g_gIf {b b' w : Bool} {x y : Prop} (h : mk b = b') : gIf b w x y = gIf b' w x y := by rw [← h]; rfl
def pickL (π : List Nat) (ops : List Oper) : List Oper := π.filterMap fun i => ops[i]?
def pickC (o : Option Oper) (r : List Oper) : List Oper := match o with | some o => o :: r | none => r
theorem z3k : aops C n W ops [] E H Q = Q E H := by rw [aops]
theorem z4t {d op ty pos af} : aops C n W ops (⟨some d, op, ty, pos, af, none⟩ :: r) E H Q = aop C n W (look E) H op fun v H' => aops C n W ops r ((d, v) :: E) H' Q := by rw [aops]; rfl
theorem z4s {op ty pos af} : aops C n W ops (⟨none, op, ty, pos, af, none⟩ :: r) E H Q = aop C n W (look E) H op fun _ H' => aops C n W ops r E H' Q := by rw [aops]; rfl
theorem z2v {d op ty pos af j want} : aops C n W ops (⟨some d, op, ty, pos, af, some (j, want)⟩ :: r) E H Q = onSome (dstOf ops j) fun d' => onG (look E d') (fun b => gsplit b fun b' =>
    gIf b' want (aop C n W (look ((d', .bool b') :: E)) H op fun v H' => aops C n W ops r ((d, v) :: (d', .bool b') :: E) H' Q)
      (aops C n W ops r ((d, .tup []) :: (d', .bool b') :: E) H Q)) (aops C n W ops r ((d, .tup []) :: E) H Q) := by rw [aops]; rfl
theorem z2u {op ty pos af j want} : aops C n W ops (⟨none, op, ty, pos, af, some (j, want)⟩ :: r) E H Q = onSome (dstOf ops j) fun d' => onG (look E d') (fun b => gsplit b fun b' =>
    gIf b' want (aop C n W (look ((d', .bool b') :: E)) H op fun _ H' => aops C n W ops r ((d', .bool b') :: E) H' Q)
      (aops C n W ops r ((d', .bool b') :: E) H Q)) (aops C n W ops r E H Q) := by rw [aops]; rfl
theorem z24 {d op ty pos af g} : dstOf (⟨d, op, ty, pos, af, g⟩ :: r) 0 = d := by unfold dstOf; simp
theorem z23 {o : Oper} {j : Nat} : dstOf (o :: r) (j + 1) = dstOf r j := by unfold dstOf; simp
theorem z00 {t v} : look ((t, v) :: E) t = v := by simp [look]
theorem z01 {s t v} (h : ¬ s = t) : look ((s, v) :: E) t = look E t := by simp [look, h]
theorem z3h {t} : look [] t = .junk := by unfold look; rfl
theorem z2f {t} : ev F (.tmp t) = F t := by unfold ev; rfl
theorem z2b {k i} : ev F (.const (.int k i)) = .int k i := by unfold ev; rfl
theorem z29 {b} : ev F (.const (.bool b)) = .bool b := by unfold ev; rfl
theorem z2e {b} : ev F (.const (.string b)) = .str b := by unfold ev; rfl
theorem z2c : ev F (.const (.pointer none)) = .nilp := by unfold ev; rfl
theorem z2d : ev F (.const (.slice none 0 0)) = .nils := by unfold ev; rfl
theorem z2a {f} : ev F (.func f) = .fn f [] [] := by unfold ev; rfl

theorem z3s {b k} : onB (.bool b) k = k b := by unfold onB; rfl
theorem z3y {b k q} : onG (.bool b) k q = k b := by unfold onG; rfl
theorem z3z {k q} : onG (.tup []) k q = q := by unfold onG; rfl
theorem z40 {j i k} : onI (.int j i) k = k j i := by unfold onI; rfl
theorem z3v {j i k} : onD (.int j i) k = k (.int j) (.int j i) := by unfold onD; rfl
theorem z3u {b k} : onD (.bool b) k = k .bool (.bool b) := by unfold onD; rfl
theorem z3w {b k} : onD (.str b) k = k .str (.str b) := by unfold onD; rfl
theorem z3t {τ v k} : onD (.agg τ v) k = k τ v := by unfold onD; rfl
theorem z3p {b p τ k q} : onAddr (.ptr b p τ) k q = k b p τ := by unfold onAddr; rfl
theorem z3q {b k q} : onAddr (.rptr b) k q = q b := by unfold onAddr; rfl
theorem z4c {b lo len k q} : onSL (.slc b lo len) k q = k b lo len := by unfold onSL; rfl
theorem z4b {b lo len cp k q} : onSL (.slk b lo len cp) k q = q b lo len cp := by unfold onSL; rfl
theorem z49 {b lo len k} : onPY (.slc b lo len) k = k b lo len := by unfold onPY; rfl
theorem z48 {b lo len cp k} : onPY (.slk b lo len cp) k = k b lo len := by unfold onPY; rfl
theorem z3a {t b lo m cp k} : onLen C t (.slk b lo m cp) k = ((C.sl t).isSome = true ∧ k m) := by unfold onLen; rfl
theorem z43 {b p τ k q} : onPS (.ptr b p τ) k q = k b p τ := by unfold onPS; rfl
theorem z44 {b lo len k q} : onPS (.slc b lo len) k q = q b lo len := by unfold onPS; rfl
theorem z3n {τ v k q} : onAS (.agg τ v) k q = k τ v := by unfold onAS; rfl
theorem z3o {s k q} : onAS (.str s) k q = q s := by unfold onAS; rfl
theorem z4h {l k} : onTup (.tup l) k = k l := by unfold onTup; rfl
theorem z3x {f c d k} : onFn (.fn f c d) k = k f c d := by unfold onFn; rfl
theorem z08 {α : Type} {a : α} {k} : onSome (some a) k = k a := by unfold onSome; rfl
theorem z4d {wr e l k} : onSeq (some (.seq wr e l)) k = k wr e l := by unfold onSeq; rfl
theorem z4a {v k} : onRef (some (.ref v)) k = k v := by unfold onRef; rfl
theorem z3r {m e k} : onArr (.arr m e) k = k m e := by unfold onArr; rfl
theorem onK_ty {t k q τ} (h : C.ty t = some τ) : onK C t k q = k τ := by unfold onK; rw [h]
theorem onK_rf {t k q z} (h : C.ty t = none) (h' : C.rf t = some z) : onK C t k q = q z := by unfold onK; rw [h, h']
theorem znc {b k} : gsplit b k = ((b = true → k true) ∧ (b = false → k false)) := by unfold gsplit; rfl
theorem z2w {p : Prop} [Decidable p] {k} : gsplit (decide p) k = ((p → k true) ∧ (¬ p → k false)) := by unfold gsplit; simp only [decide_eq_true_eq, decide_eq_false_iff_not]
theorem z31 {b k} : gsplit (!b) k = gsplit b fun t => k (!t) := by
  unfold gsplit; cases b <;> simp
theorem z32 {k} : gsplit true k = k true := by unfold gsplit; simp
theorem z30 {k} : gsplit false k = k false := by unfold gsplit; simp
theorem z36 {b p τ} : isPtr (.ptr b p τ) = True := by unfold isPtr; rfl
theorem z37 {b} : isPtr (.rptr b) = True := by unfold isPtr; rfl
theorem z35 {b c d} : isPtr (.fn b c d) = True := by unfold isPtr; rfl
theorem z1s {d k} : onBnd F none d k = k d := by unfold onBnd; rfl
theorem z1t {x d k} : onBnd F (some x) d k = onI (ev F x) fun _ a => 0 ≤ a ∧ k a.toNat := by unfold onBnd; rfl
theorem z2l {τ v k} : fillsP F τ v [] k = k v := by rw [fillsP]
theorem z2k {τ v i x ps k} : fillsP F τ v ((i, x) :: ps) k = onD (ev F x) fun s u => τ.fld i = some s ∧ fillsP F τ (v.set [i] u) ps k := by rw [fillsP]
theorem zc2 {τ v k} : fillsLP F τ v [] k = k v := by rw [fillsLP]
theorem zc1 {e l i x ps k} : fillsLP F e l ((i, x) :: ps) k = onD (ev F x) fun s u => s = e ∧ i < l.length ∧ fillsLP F e (l.set i u) ps k := by rw [fillsLP]

theorem z3j {x} : aop C n W F H (.move x) K = force (ev F x) fun v => K v H := by rw [aop]; rfl
theorem z1a {x} : aop C n W F H (.assign x) K = force (ev F x) fun v => K v H := by rw [aop]; rfl
theorem z4u {c x y} : aop C n W F H (.pick c x y) K = onB (ev F c) fun b => gsplit b fun t => gIf t true (force (ev F x) fun v => K v H) (force (ev F y) fun v => K v H) := by
  rw [aop]; unfold gIf force; refine congrArg (onB (ev F c)) (funext fun b => congrArg (gsplit b) (funext fun t => ?_))
  cases t <;> simp
theorem z11 {t} : aop C n W F H (.alloc t) K = onK C t (fun τ => force H.length fun m => force (H ++ [.data τ τ.zero]) fun H' => K (.ptr m [] τ) H') (fun z => force H.length fun m => force (H ++ [.ref z]) fun H' => K (.rptr m) H') := by rw [aop]; rfl
theorem z1u {t x} : aop C n W F H (.box t x) K = onK C t (fun _ => onD (ev F x) fun s v => force H.length fun m => force (H ++ [.data s v]) fun H' => K (.ptr m [] s) H') (fun _ => (ev F x).oneB = true ∧ force H.length fun m => force (H ++ [.ref (ev F x)]) fun H' => K (.rptr m) H') := by rw [aop]; rfl
theorem z1v {t ps} : aop C n W F H (.build t (List.toArray ps)) K = onSome (C.ty t) fun τ => τ.agg = true ∧ fillsP F τ τ.zero ps fun v => force v fun v => K (.agg τ v) H := by rw [aop]; rfl
theorem zc0 {t m ps} : aop C n W F H (.buildSlice t m (List.toArray ps)) K = onSome (C.sl t) fun e => m ≤ 100 ∧ e.size ≤ 10000 ∧ fillsLP F e (List.replicate m e.zero) ps fun l => force H.length fun k => force (H ++ [.seq true e l]) fun H' => K (.slc k 0 m) H' := by rw [aop]; rfl
theorem z3g {t x} : aop C n W F H (.load t x) K = onAddr (ev F x) (fun b p τ => C.ty t = some τ ∧ onSome H[b]? fun B => onSome (B.get? p) fun v => force (ofD τ v) fun v => K v H) (fun b => (C.rf t).isSome = true ∧ onRef H[b]? fun v => K v H) := by rw [aop]; rfl
theorem z5a {t x y} : aop C n W F H (.store t x y) K = onAddr (ev F x) (fun b p τ => C.ty t = some τ ∧ onD (ev F y) fun s v => s = τ ∧ may n W b ∧ onSome H[b]? fun B => onSome (B.set? p v) fun B' => force (H.set b B') fun H' => K .junk H')
      (fun b => (C.rf t).isSome = true ∧ (ev F y).oneB = true ∧ may n W b ∧ onRef H[b]? fun _ => force (H.set b (.ref (ev F y))) fun H' => K .junk H') := by rw [aop]; rfl
theorem z3l {x} : aop C n W F H (.nilCheck x) K = (isPtr (ev F x) ∧ force (ev F x) fun v => K v H) := by rw [aop]; rfl
theorem z1b {op t x y u} : aop C n W F H (.binOp op t x y u) K = abin C op t (ev F x) (ev F y) fun v => force v fun v => K v H := by rw [aop]; rfl
theorem z3m {t x} : aop C n W F H (.unOp .not t x) K = onB (ev F x) fun b => force (AV.bool (!b)) fun v => K v H := by rw [aop]; rfl
theorem znp {t x} : aop C n W F H (.unOp .neg t x) K = onI (ev F x) fun k a => force (AV.int k (k.wrap (0 - a))) fun v => K v H := by rw [aop]; rfl
theorem zd8 {s t x} : aop C n W F H (.convert s t x) K = onI (ev F x) fun _ a => onSome (C.ty s) fun σ => onSome (C.ty t) fun τ => onInts σ τ (fun k => force (AV.int k (k.wrap a)) fun v => K v H) (0 ≤ a ∧ a < 128 ∧ force (AV.str ⟨#[UInt8.ofNat a.toNat]⟩) fun v => K v H) := by rw [aop]; rfl
theorem zd9 {j k} {q : IntKind → Prop} {r} : onInts (.int j) (.int k) q r = q k := by unfold onInts; rfl
theorem zda {j} {q : IntKind → Prop} {r} : onInts (.int j) .str q r = r := by unfold onInts; rfl
theorem zdg {f a b} : aop C n W F H (.makeFunc (.func f) (List.toArray a) (List.toArray b)) K = force (AV.fn f (a.map (ev F)) (b.map (ev F))) fun v => K v H := by rw [aop]; rfl
theorem znj {t x y} : aop C n W F H (.makeSlice t x y) K = onSome (C.sl t) fun e => onI (ev F x) fun _ a => onI (ev F y) fun _ b => 0 ≤ a ∧ a ≤ 1048576 ∧ b = a ∧ force H.length fun k => force (H ++ [.seq true e (List.replicate a.toNat e.zero)]) fun H' => K (.slc k 0 a.toNat) H' := by rw [aop]; rfl
theorem z58 {t x lo hi} : aop C n W F H (.slice t x lo hi none) K = onStr (ev F x) (fun s => C.ty t = some .str ∧ onBnd F lo 0 fun l => onBnd F hi s.size fun h => l ≤ h ∧ h ≤ s.size ∧ force (AV.str (s.extract l h)) fun v => K v H) (onSome (C.sl t) fun e => onSL (ev F x) (fun b off m => onSeq H[b]? fun _ e' _ => e' = e ∧ onBnd F lo 0 fun l => onBnd F hi m fun h => l ≤ h ∧ h ≤ m ∧ gIf (C.sk t) true (0 < m ∧ force (AV.slk b (off + l) (h - l) (m - l)) fun v => K v H) (force (AV.slc b (off + l) (h - l)) fun v => K v H))
    (fun b off m cp => onSeq H[b]? fun _ e' _ => e' = e ∧ onBnd F lo 0 fun l => onBnd F hi m fun h => l ≤ h ∧ h ≤ cp ∧ 0 < cp ∧ force (AV.slc b (off + l) (h - l)) fun v => K v H)) := by rw [aop]; rfl
theorem z4e {s k} {q : Prop} : onStr (.str s) k q = k s := by unfold onStr; rfl
theorem z4g {b lo m k} {q : Prop} : onStr (.slc b lo m) k q = q := by unfold onStr; rfl
theorem z4f {b lo m c k} {q : Prop} : onStr (.slk b lo m c) k q = q := by unfold onStr; rfl
theorem z41 {b k} : onMp (.mp b) k = k b := by unfold onMp; rfl
theorem z42 {l k} : onMpb (some (.mpb l)) k = k l := by unfold onMpb; rfl
theorem zdu {t} : aop C n W F H (.makeMap t none) K = force H.length fun m => force (H ++ [.mpb []]) fun H' => K (.mp m) H' := by rw [aop]; rfl
theorem zdt {t m k x} : aop C n W F H (.insert t m k x) K = onMp (ev F m) fun b => onTwo (ev F k) fun u v => onI (ev F x) fun j z => j = .i64 ∧ C.mp t = true ∧ may n W b ∧ onMpb H[b]? fun l => force (mset l (u, v) z) fun l' => force (H.set b (.mpb l')) fun H' => K .junk H' := by rw [aop]; rfl
theorem zdv {t m k x} : aop C n W F H (.mapUpdate t m k x) K = onMp (ev F m) fun b => onTwo (ev F k) fun u v => onI (ev F x) fun j z => j = .i64 ∧ C.mp t = true ∧ may n W b ∧ onMpb H[b]? fun l => force (mset l (u, v) z) fun l' => force (H.set b (.mpb l')) fun H' => K .junk H' := by rw [aop]; rfl
theorem zdi {t m k} : aop C n W F H (.lookup t m k true) K = onMp (ev F m) fun b => onTwo (ev F k) fun u v => C.mp t = true ∧ onMpb H[b]? fun l => force (mget l (u, v)) fun r => K (.tup [.int .i64 (r.getD 0), .bool r.isSome]) H := by rw [aop]; rfl
theorem zdh {t m k} : aop C n W F H (.lookup t m k false) K = onMp (ev F m) fun b => onTwo (ev F k) fun u v => C.mp t = true ∧ onMpb H[b]? fun l => force (mget l (u, v)) fun r => K (.int .i64 (r.getD 0)) H := by rw [aop]; rfl
theorem z59 {t x lo hi mx} : aop C n W F H (.slice t x lo (some hi) (some mx)) K = onSome (C.sl t) fun e => onPS (ev F x) (fun _ _ _ => False) fun b off m0 => onSeq H[b]? fun _ e' _ => e' = e ∧ onBnd F lo 0 fun l => onI (ev F hi) fun _ h => onI (ev F mx) fun _ m => 0 ≤ h ∧ 0 ≤ m ∧ l ≤ h.toNat ∧ h.toNat ≤ m.toNat ∧ m.toNat ≤ m0 ∧ force (AV.slc b (off + l) (h.toNat - l)) fun v => K v H := by rw [aop]; rfl
theorem z2j {t x f} : aop C n W F H (.fieldAddr t x f) K = onAddr (ev F x) (fun b p τ => C.ty t = some τ ∧ onSome (τ.fldS f) fun s => force (AV.ptr b (p ++ [f]) s) fun v => K v H) (fun _ => False) := by rw [aop]; rfl
theorem z2i {t x f} : aop C n W F H (.field t x f) K = onAS (ev F x) (fun τ v => C.ty t = some τ ∧ onSome (τ.fldS f) fun s => force (ofD s (v.get [f])) fun v => K v H) (fun _ => False) := by rw [aop]; rfl
theorem z34 {t x y} : aop C n W F H (.indexAddr t x y) K = onPX (ev F x) (fun b p τ => onArr τ fun m e => C.ty t = some (.arr m e) ∧ onI (ev F y) fun _ i => 0 ≤ i ∧ i < (m : Int) ∧ force (AV.ptr b (p ++ [i.toNat]) e) fun v => K v H)
      (fun b lo len => onSome (C.sl t) fun e => onSeq H[b]? fun _ e' _ => e' = e ∧ onI (ev F y) fun _ i => 0 ≤ i ∧ i < (len : Int) ∧ force (AV.ptr b [lo + i.toNat] e) fun v => K v H)
      (fun b len => onSome (C.sl t) fun e => onWin H[b]? fun _ e' => e' = e ∧ onI (ev F y) fun _ i => 0 ≤ i ∧ i < (len : Int) ∧ force (AV.ptr b [i.toNat] e) fun v => K v H) := by rw [aop]; rfl
theorem z45 {b p τ k q r} : onPX (.ptr b p τ) k q r = k b p τ := by unfold onPX; rfl
theorem z46 {b lo len k q r} : onPX (.slc b lo len) k q r = q b lo len := by unfold onPX; rfl
theorem z47 {b len k q r} : onPX (.wsl b len) k q r = r b len := by unfold onPX; rfl
theorem z4i {o e l k} : onWin (some (.win o e l)) k = k o e := by unfold onWin; rfl
theorem z3f {t k} : onLen C t .wz k = ((C.sl t).isSome = true ∧ k 0) := by unfold onLen; rfl
theorem z3e {t b m k} : onLen C t (.wsl b m) k = ((C.sl t).isSome = true ∧ k m) := by unfold onLen; rfl
theorem z33 {t x y} : aop C n W F H (.index t x y) K = onAS (ev F x) (fun τ v => onArr τ fun m e => C.ty t = some (.arr m e) ∧ onI (ev F y) fun _ i => 0 ≤ i ∧ i < (m : Int) ∧ force (ofD e (v.get [i.toNat])) fun v => K v H)
      (fun s => C.ty t = some .str ∧ onI (ev F y) fun _ i => 0 ≤ i ∧ onSome s[i.toNat]? fun c => K (.int .u8 c.toNat) H) := by rw [aop]; rfl
theorem z2h {x i} : aop C n W F H (.extract x i) K = onTup (ev F x) fun l => onSome l[i]? fun v => force v fun v => K v H := by rw [aop]; rfl
theorem z1x {f a ts} : aop C n W F H (.call ⟨.value (.func f), List.toArray a, ts⟩) K = gIf (C.quiet f) true (qcall C.P f (a.map (ev F)) H fun v => K v H) (acall C.P n W f (a.map (ev F)) H K) := by rw [aop]; rfl
theorem z1y {t a ts} : aop C n W F H (.call ⟨.value (.tmp t), List.toArray a, ts⟩) K = onFn (F t) fun f c d => acall C.P n W f (c ++ a.map (ev F) ++ d) H K := by rw [aop]
theorem z1w {b a ts} : aop C n W F H (.call ⟨.builtin b, List.toArray a, List.toArray ts⟩) K = abuiltin C n W F H b a ts K := by rw [aop]
theorem z38 {x t} : abuiltin C n W F H .len [x] [t] K = onLen C t (ev F x) fun m => force (AV.int .i64 m) fun v => K v H := by rw [abuiltin]; rfl
theorem z3c {t b lo m k} : onLen C t (.slc b lo m) k = ((C.sl t).isSome = true ∧ k m) := by unfold onLen; rfl
theorem z3b {t k} : onLen C t .nils k = ((C.sl t).isSome = true ∧ k 0) := by unfold onLen; rfl
theorem z3d {t s k} : onLen C t (.str s) k = (C.ty t = some .str ∧ k s.size) := by unfold onLen; rfl
theorem z39 {t m e v k} : onLen C t (.agg (.arr m e) v) k = (C.ty t = some (.arr m e) ∧ k m) := by unfold onLen; rfl
theorem znk {x y ts} : abuiltin C n W F H .max [x, y] ts K = onI (ev F x) fun k a => onI (ev F y) fun _ b => K (.int k (mm true a b)) H := by rw [abuiltin]
theorem znn {x y ts} : abuiltin C n W F H .min [x, y] ts K = onI (ev F x) fun k a => onI (ev F y) fun _ b => K (.int k (mm false a b)) H := by rw [abuiltin]
theorem znl {x y z ts} : abuiltin C n W F H .max [x, y, z] ts K = onI (ev F x) fun k a => onI (ev F y) fun _ b => onI (ev F z) fun _ c => K (.int k (mm true (mm true a b) c)) H := by rw [abuiltin]
theorem zfj {x t} : abuiltin C n W F H .clear [x] [t] K = onPS (ev F x) (fun _ _ _ => False) fun b lo m => onSome (C.sl t) fun e => may n W b ∧ onSeq H[b]? fun wr e1 l => wr = true ∧ e1 = e ∧ lo + m ≤ l.length ∧
        force (H.set b (.seq true e (l.take lo ++ List.replicate m e.zero ++ l.drop (lo + m)))) fun H' => K (.tup []) H' := by rw [abuiltin]; rfl
theorem za5 {x y t t'} : abuiltin C n W F H .append [x, y] [t, t'] K = onSL (ev F x) (fun b lo m => onPY (ev F y) fun b2 lo2 m2 =>
      onSome (C.sl t) fun e => C.sl t' = some e ∧ lo = 0 ∧ n ≤ b ∧ m + m2 ≤ 1000000 ∧ onSeq H[b]? fun wr e1 l => wr = true ∧ e1 = e ∧ m ≤ l.length ∧ onSeq H[b2]? fun _ e2 l2 => e2 = e ∧ lo2 + m2 ≤ l2.length ∧
        force H.length fun k => force (H.set b (.dead (.seq e)) ++ [.seq true e (l.take m ++ (l2.drop lo2).take m2)]) fun H' => force (m + m2) fun m' => K (.slc k 0 m') H')
    (fun b lo m cp => onPY (ev F y) fun b2 lo2 m2 => onSome (C.sl t) fun e => C.sl t' = some e ∧ lo = 0 ∧ may n W b ∧ m + m2 ≤ cp ∧ 0 < cp ∧ onSeq H[b]? fun wr e1 l => wr = true ∧ e1 = e ∧ m + m2 ≤ l.length ∧ onSeq H[b2]? fun _ e2 l2 => e2 = e ∧ lo2 + m2 ≤ l2.length ∧
        force (H.set b (.seq true e (l.take m ++ (l2.drop lo2).take m2 ++ l.drop (m + m2)))) fun H' => force (m + m2) fun m' => K (.slk b 0 m' cp) H') := by rw [abuiltin]; rfl

theorem z1g {op t k a k' b} {L : AV → Prop} : abin C op t (.int k a) (.int k' b) L = gIf (BinOp.isSh op) true (0 ≤ b ∧ L (iSh op k a b)) (k = k' ∧ gIf (BinOp.isDiv op) true (b ≠ 0 ∧ L (iBin op k a b)) (L (iBin op k a b))) := by unfold abin; rfl
theorem z1j {t a b} {L : AV → Prop} : abin C .add t (.str a) (.str b) L = (C.ty t = some .str ∧ ((a.size + b.size : Nat) : Int) ≤ 9223372036854775807 ∧ L (.str (a ++ b))) := by unfold abin; simp
theorem z1k {t a b} {L : AV → Prop} : abin C .eql t (.str a) (.str b) L = (C.ty t = some .str ∧ L (.bool (a.toList == b.toList))) := by unfold abin; simp
theorem z1l {t a b} {L : AV → Prop} : abin C .neq t (.str a) (.str b) L = (C.ty t = some .str ∧ L (.bool (!(a.toList == b.toList)))) := by unfold abin; simp
theorem z1h {t b lo m} {L : AV → Prop} : abin C .eql t (.slc b lo m) .nils L = ((C.sl t).isSome = true ∧ L (.bool false)) := by unfold abin; simp
theorem z1i {t b lo m} {L : AV → Prop} : abin C .neq t (.slc b lo m) .nils L = ((C.sl t).isSome = true ∧ L (.bool true)) := by unfold abin; simp
theorem z1e {t a b} {L : AV → Prop} : abin C .eql t (.bool a) (.bool b) L = (C.ty t = some .bool ∧ L (.bool (a == b))) := by unfold abin; simp
theorem z1f {t a b} {L : AV → Prop} : abin C .neq t (.bool a) (.bool b) L = (C.ty t = some .bool ∧ L (.bool (a != b))) := by unfold abin; simp
theorem z1c {t m k a τ b} {L : AV → Prop} : abin C .eql t (.agg (.arr m (.int k)) a) (.agg τ b) L = (τ = .arr m (.int k) ∧ C.ty t = some (.arr m (.int k)) ∧ C.eq t = true ∧ L (.bool (eqD (.arr m (.int k)) a b))) := by unfold abin; simp
theorem z1d {t m k a τ b} {L : AV → Prop} : abin C .neq t (.agg (.arr m (.int k)) a) (.agg τ b) L = (τ = .arr m (.int k) ∧ C.ty t = some (.arr m (.int k)) ∧ C.eq t = true ∧ L (.bool (!eqD (.arr m (.int k)) a b))) := by unfold abin; simp
theorem znv : BinOp.isSh .shl = true := rfl
theorem zhe : BinOp.isSh .shr = true := rfl
theorem z71 : BinOp.isSh .add = false := rfl
theorem zen : BinOp.isSh .sub = false := rfl
theorem znr : BinOp.isSh .mul = false := rfl
theorem znt : BinOp.isSh .quo = false := rfl
theorem znu : BinOp.isSh .rem = false := rfl
theorem zhc : BinOp.isSh .and = false := rfl
theorem zns : BinOp.isSh .or = false := rfl
theorem znq : BinOp.isSh .andNot = false := rfl
theorem zcb : BinOp.isSh .eql = false := rfl
theorem z9m : BinOp.isSh .neq = false := rfl
theorem z6y : BinOp.isSh .lss = false := rfl
theorem zhd : BinOp.isSh .leq = false := rfl
theorem zgt : BinOp.isSh .gtr = false := rfl
theorem zgs : BinOp.isSh .geq = false := rfl
theorem z6z : BinOp.isDiv .add = false := rfl
theorem zel : BinOp.isDiv .sub = false := rfl
theorem zn8 : BinOp.isDiv .mul = false := rfl
theorem zna : BinOp.isDiv .quo = true := rfl
theorem znb : BinOp.isDiv .rem = true := rfl
theorem zh7 : BinOp.isDiv .and = false := rfl
theorem zn9 : BinOp.isDiv .or = false := rfl
theorem zn7 : BinOp.isDiv .andNot = false := rfl
theorem zc9 : BinOp.isDiv .eql = false := rfl
theorem z9k : BinOp.isDiv .neq = false := rfl
theorem z6w : BinOp.isDiv .lss = false := rfl
theorem zh8 : BinOp.isDiv .leq = false := rfl
theorem zgp : BinOp.isDiv .gtr = false := rfl
theorem zgo : BinOp.isDiv .geq = false := rfl
theorem z70 {k x y} : iBin .add k x y = .int k (k.wrap (x + y)) := by unfold iBin; rfl
theorem zem {k x y} : iBin .sub k x y = .int k (k.wrap (x - y)) := by unfold iBin; rfl
theorem zne {k x y} : iBin .mul k x y = .int k (k.wrap (x * y)) := by unfold iBin; rfl
theorem zng {k x y} : iBin .quo k x y = .int k (k.wrap (x.tdiv y)) := by unfold iBin; rfl
theorem znh {k x y} : iBin .rem k x y = .int k (x.tmod y) := by unfold iBin; rfl
theorem zh9 {k x y} : iBin .and k x y = .int k (k.wrap (BitVec.ofInt k.bits x &&& BitVec.ofInt k.bits y).toNat) := by unfold iBin; rfl
theorem znf {k x y} : iBin .or k x y = .int k (k.wrap (BitVec.ofInt k.bits x ||| BitVec.ofInt k.bits y).toNat) := by unfold iBin; rfl
theorem znd {k x y} : iBin .andNot k x y = .int k (k.wrap (BitVec.ofInt k.bits x &&& ~~~ BitVec.ofInt k.bits y).toNat) := by unfold iBin; rfl
theorem zca {k x y} : iBin .eql k x y = .bool (decide (x = y)) := by unfold iBin; rfl
theorem z9l {k x y} : iBin .neq k x y = .bool (!decide (x = y)) := by unfold iBin; rfl
theorem z6x {k x y} : iBin .lss k x y = .bool (decide (x < y)) := by unfold iBin; rfl
theorem zha {k x y} : iBin .leq k x y = .bool (decide (x ≤ y)) := by unfold iBin; rfl
theorem zgr {k x y} : iBin .gtr k x y = .bool (decide (y < x)) := by unfold iBin; rfl
theorem zgq {k x y} : iBin .geq k x y = .bool (decide (y ≤ x)) := by unfold iBin; rfl
theorem zni {k x y} : iSh .shl k x y = .int k (k.wrap (x * 2 ^ (min y.toNat k.bits))) := by unfold iSh; rfl
theorem zhb {k x y} : iSh .shr k x y = .int k (x.fdiv (2 ^ (min y.toNat k.bits))) := by unfold iSh; rfl

theorem z4y {i} {l : List Oper} : acode C n W (.region i (List.toArray l) false) E H R = aops C n W l l E H (R .normal) := by rw [acode]; simp
theorem z4z {i d op ty pos af g} {l : List Oper} : acode C n W (.region i (List.toArray (⟨d, op, ty, pos, af, g⟩ :: l)) true) E H R = altP C n W (⟨d, op, ty, pos, af, g⟩ :: l) E H (fun E H => apIf (C.ap i d) E (R .normal E H)) (C.alt i d (l.length + 1)) := by rw [acode]; simp [headD, apIf]
@[congr] theorem g_altP {C : Ctx} {n : Nat} {W : List Nat} {ops : List Oper} {E : Env} {H : Heap} {Q : Env → Heap → Prop} {t t' : OT} (h : mk t = t') : altP C n W ops E H Q t = altP C n W ops E H Q t' := by rw [← h]; rfl
theorem z14 : altP C n W ops E H Q .txt = aops C n W ops ops E H Q := by rw [altP]
theorem z12 {π : List Nat} : altP C n W ops E H Q (.perm π) = force (pickL π ops) fun l => aops C n W ops l E H Q := by rw [altP, pickL]; rfl
theorem z13 {i j a b} : altP C n W ops E H Q (.split i j a b) = (altP C n W ops E H Q a ∧ altP C n W ops E H Q b) := by rw [altP]
theorem z4v : pickL [] ops = [] := by unfold pickL; simp
theorem z4w {i : Nat} {π : List Nat} : pickL (i :: π) ops = pickC (ops[i]?) (pickL π ops) := by unfold pickL pickC; rw [List.filterMap_cons]; cases ops[i]? <;> rfl
theorem z4x {o : Oper} : pickC (some o) r = o :: r := by unfold pickC; rfl
theorem z17 {p : Prop} : apIf [] E p = p := by unfold apIf apAll; simp
theorem z16 {x y l} {p : Prop} : apIf ((x, y) :: l) E p = (apB (look E x) (look E y) ∧ apIf l E p) := by unfold apIf; rw [apAll, and_assoc]
theorem z15 {b q τ b' q' τ'} : apB (.ptr b q τ) (.ptr b' q' τ') = ¬ (b = b') := by
  unfold apB blkOf; simp
theorem z54 {a b} : acode C n W (.seq a b) E H R = acode C n W a E H (thenQ (fun E H => acode C n W b E H R) R) := by rw [acode]
theorem z57 : acode C n W .skip E H R = R .normal E H := by rw [acode]
theorem z53 : acode C n W .ret E H R = R .ret E H := by rw [acode]
theorem z2g {m} : acode C n W (.exit m) E H R = R (.exit m) E H := by rw [acode]
theorem z1z {c a b} : acode C n W (.cond c a b) E H R = onB (ev (look E) c) fun t => gsplit t fun t' => gIf t' true (acode C n W a E H R) (acode C n W b E H R) := by rw [acode]; rfl
theorem z1n {i c} : acode C n W (.block i c) E H R = acode C n W c E H (blockQ i R) := by rw [acode]
theorem z5c {k : Env → Heap → Prop} : thenQ k R .normal E H = k E H := by unfold thenQ; rfl
theorem z5d {k : Env → Heap → Prop} : thenQ k R .ret E H = R .ret E H := by unfold thenQ; rfl
theorem z5b {k : Env → Heap → Prop} {m} : thenQ k R (.exit m) E H = R (.exit m) E H := by unfold thenQ; rfl
theorem z1p {i} : blockQ i R .normal E H = R .normal E H := by unfold blockQ; rfl
theorem z1r {i} : blockQ i R .ret E H = R .ret E H := by unfold blockQ; rfl
theorem z1o {i} : blockQ i R (.exit i) E H = R .normal E H := by unfold blockQ; simp
theorem z1q {i m} (h : ¬ m = i) : blockQ i R (.exit m) E H = R (.exit m) E H := by unfold blockQ; simp [h]
theorem z2m {rs m v H'} : finQ C rs m v H' .normal E H = ares C E H rs fun l => fin m (one l) H v H' := by unfold finQ; rfl
theorem z2n {rs m v H'} : finQ C rs m v H' .ret E H = ares C E H rs fun l => fin m (one l) H v H' := by unfold finQ; rfl
theorem z51 {k : List AV → Prop} : ares C E H [] k = k [] := by rw [ares]
theorem z52 {t rs} {k : List AV → Prop} : ares C E H (.tmp t :: rs) k = ares C E H rs fun l => force (look E t) fun v => k (v :: l) := by rw [ares]; rfl
theorem z50 {x t rs} {k : List AV → Prop} : ares C E H (.cell x t :: rs) k = onAddr (look E x) (fun b p τ => C.ty t = some τ ∧ onSome H[b]? fun B => onSome (B.get? p) fun v => force (ofD τ v) fun v => ares C E H rs fun l => k (v :: l))
      (fun b => (C.rf t).isSome = true ∧ onRef H[b]? fun v => ares C E H rs fun l => k (v :: l)) := by rw [ares]; rfl
theorem z4k {v} : one [v] = v := by unfold one; rfl
theorem z4l {a b l} : one (a :: b :: l) = .tup (a :: b :: l) := by unfold one; rfl
theorem z4j : one [] = .tup [] := by unfold one; rfl
theorem z19 {k} : argE [] k = [] := by rw [argE]
theorem z18 {v l k} : argE (v :: l) k = (k, v) :: argE l (k + 1) := by rw [argE]

theorem z06 {j k i} : ofD (.int j) (.int k i) = .int k i := by unfold ofD; rfl
theorem z04 {b} : ofD .bool (.bool b) = .bool b := by unfold ofD; rfl
theorem z07 {b} : ofD .str (.str b) = .str b := by unfold ofD; rfl
theorem z03 {m e v} : ofD (.arr m e) v = .agg (.arr m e) v := by unfold ofD; rfl
theorem z05 {a b v} : ofD (.cons a b) v = .agg (.cons a b) v := by unfold ofD; rfl
theorem z2x {τ v p} : Blk.get? (.data τ v) p = some (v.get p) := by unfold Blk.get?; rfl
theorem z2y {wr e l i p} : Blk.get? (.seq wr e l) (i :: p) = (l[i]?).map fun y => y.get p := by unfold Blk.get?; rfl
theorem z2z {f e l i p} : Blk.get? (.win f e l) (i :: p) = (l[i]?).map fun y => y.get p := by unfold Blk.get?; rfl
theorem z55 {τ v p x} : Blk.set? (.data τ v) p x = some (.data τ (v.set p x)) := by unfold Blk.set?; rfl
theorem z56 {e l i p x} : Blk.set? (.seq true e l) (i :: p) x = (l[i]?).map fun y => .seq true e (l.set i (y.set p x)) := by unfold Blk.set?; rfl
theorem z28 {v : DV} : v.get [] = v := by cases v <;> rw [DV.get]
theorem z25 {f i p} : (DV.arr f).get (i :: p) = (f i).get p := by rw [DV.get]
theorem z27 {a b p} : (DV.cons a b).get (0 :: p) = a.get p := by rw [DV.get]
theorem z26 {a b i p} : (DV.cons a b).get ((i + 1) :: p) = b.get (i :: p) := by rw [DV.get]
theorem z09 {v x : DV} : v.set [] x = x := by cases v <;> rw [DV.set]
theorem z20 {f i p x} : (DV.arr f).set (i :: p) x = .arr fun j => if j = i then (f i).set p x else f j := by rw [DV.set]
theorem z22 {a b p x} : (DV.cons a b).set (0 :: p) x = .cons (a.set p x) b := by rw [DV.set]
theorem z21 {a b i p x} : (DV.cons a b).set ((i + 1) :: p) x = .cons a (b.set (i :: p) x) := by rw [DV.set]
theorem z2o {m e i} : (Sh.arr m e).fldS i = none := by unfold Sh.fldS; rfl
theorem znw {k} : (Sh.int k).zero = .int k 0 := rfl
theorem znm {b : Nat} (h : n ≤ b) : may n W b = True := by unfold may; simp [h]
theorem z4n {k i} : (AV.int k i).oneB = true := rfl
theorem z4p {b p τ} : (AV.ptr b p τ).oneB = true := rfl
theorem z4q {b} : (AV.rptr b).oneB = true := rfl
theorem z4m {f c d} : (AV.fn f c d).oneB = true := rfl
theorem z4r {b l m} : (AV.slc b l m).oneB = true := rfl
theorem z4o : AV.nils.oneB = true := rfl
end

/-! ### What 'simp' is to leave alone till it is its turn -/
section
variable {C : Ctx} {n : Nat} {W : List Nat}
@[congr] theorem g_onB {a a' : AV} {k} (h : mk a = a') : onB a k = onB a' k := by rw [← h]; rfl
@[congr] theorem g_onG {a a' : AV} {k q} (h : mk a = a') : onG a k q = onG a' k q := by rw [← h]; rfl
@[congr] theorem g_onI {a a' : AV} {k} (h : mk a = a') : onI a k = onI a' k := by rw [← h]; rfl
@[congr] theorem g_onD {a a' : AV} {k} (h : mk a = a') : onD a k = onD a' k := by rw [← h]; rfl
@[congr] theorem g_onAddr {a a' : AV} {k q} (h : mk a = a') : onAddr a k q = onAddr a' k q := by rw [← h]; rfl
@[congr] theorem g_onPX {a a' : AV} {k q r} (h : mk a = a') : onPX a k q r = onPX a' k q r := by rw [← h]; rfl
@[congr] theorem g_onSL {a a' : AV} {k q} (h : mk a = a') : onSL a k q = onSL a' k q := by rw [← h]; rfl
@[congr] theorem g_onPY {a a' : AV} {k} (h : mk a = a') : onPY a k = onPY a' k := by rw [← h]; rfl
@[congr] theorem g_onPS {a a' : AV} {k q} (h : mk a = a') : onPS a k q = onPS a' k q := by rw [← h]; rfl
@[congr] theorem g_onAS {a a' : AV} {k q} (h : mk a = a') : onAS a k q = onAS a' k q := by rw [← h]; rfl
@[congr] theorem g_onTup {a a' : AV} {k} (h : mk a = a') : onTup a k = onTup a' k := by rw [← h]; rfl
@[congr] theorem g_onFn {a a' : AV} {k} (h : mk a = a') : onFn a k = onFn a' k := by rw [← h]; rfl
@[congr] theorem g_onSome {α : Type} {a a' : Option α} {k} (h : mk a = a') : onSome a k = onSome a' k := by rw [← h]; rfl
@[congr] theorem g_onSeq {a a' : Option Blk} {k} (h : mk a = a') : onSeq a k = onSeq a' k := by rw [← h]; rfl
@[congr] theorem g_onWin {B B' : Option Blk} {k} (h : mk B = B') : onWin B k = onWin B' k := by rw [← h]; rfl
@[congr] theorem g_onRef {a a' : Option Blk} {k} (h : mk a = a') : onRef a k = onRef a' k := by rw [← h]; rfl
@[congr] theorem g_onArr {a a' : Sh} {k} (h : mk a = a') : onArr a k = onArr a' k := by rw [← h]; rfl
@[congr] theorem g_onInts {a a' b b' : Sh} {k r} (h : mk a = a') (h' : mk b = b') : onInts a b k r = onInts a' b' k r := by rw [← h, ← h']; rfl
@[congr] theorem g_onStr {a a' : AV} {k q} (h : mk a = a') : onStr a k q = onStr a' k q := by rw [← h]; rfl
@[congr] theorem g_onMp {a a' : AV} {k} (h : mk a = a') : onMp a k = onMp a' k := by rw [← h]; rfl
@[congr] theorem g_onTwo {a a' : AV} {k} (h : mk a = a') : onTwo a k = onTwo a' k := by rw [← h]; rfl
@[congr] theorem g_onMpb {a a' : Option Blk} {k} (h : mk a = a') : onMpb a k = onMpb a' k := by rw [← h]; rfl
@[congr] theorem g_onK {t : TypeId} {k q} {u : Nat} (h : mk 0 = u) : onK C t k q = onK C t k q := rfl
@[congr] theorem g_onLen {t : TypeId} {a a' : AV} {k} (h : mk a = a') : onLen C t a k = onLen C t a' k := by rw [← h]; rfl
@[congr] theorem g_gsplit {a a' : Bool} {k} (h : mk a = a') : gsplit a k = gsplit a' k := by rw [← h]; rfl
@[congr] theorem g_acall {P : Program} {f : FuncId} {a a' : List AV} {H H' : Heap} {K} (h : mk a = a') (h' : mk H = H') : acall P n W f a H K = acall P n W f a' H' K := by rw [← h, ← h']; rfl
@[congr] theorem g_apIf {l l' : List (Tmp × Tmp)} {E : Env} {p : Prop} (h : mk l = l') : apIf l E p = apIf l' E p := by rw [← h]; rfl
@[congr] theorem g_apB {a a' b b' : AV} (h : mk a = a') (h' : mk b = b') : apB a b = apB a' b' := by rw [← h, ← h']; rfl
@[congr] theorem g_qcall {P : Program} {f : FuncId} {a a' : List AV} {H H' : Heap} {K} (h : mk a = a') (h' : mk H = H') : qcall P f a H K = qcall P f a' H' K := by rw [← h, ← h']; rfl
@[congr] theorem g_abin {op : BinOp} {t : TypeId} {a a' b b' : AV} {k} (h : mk a = a') (h' : mk b = b') : abin C op t a b k = abin C op t a' b' k := by rw [← h, ← h']; rfl
@[congr] theorem g_abuiltin {F : Tmp → AV} {H : Heap} {b : Builtin} {a : List Operand} {t : List TypeId} {K} {u : Nat} (h : mk 0 = u) : abuiltin C n W F H b a t K = abuiltin C n W F H b a t K := rfl
@[congr] theorem g_aop {F : Tmp → AV} {H : Heap} {o : Op} {K} {u : Nat} (h : mk 0 = u) : aop C n W F H o K = aop C n W F H o K := rfl
@[congr] theorem g_aops {ops r : List Oper} {E : Env} {H : Heap} {Q} {u : Nat} (h : mk 0 = u) : aops C n W ops r E H Q = aops C n W ops r E H Q := rfl
@[congr] theorem g_acode {c : Code} {E : Env} {H : Heap} {Q} {u : Nat} (h : mk 0 = u) : acode C n W c E H Q = acode C n W c E H Q := rfl
@[congr] theorem g_thenQ {k : Env → Heap → Prop} {R : AEx → Env → Heap → Prop} {x x' : AEx} {E : Env} {H : Heap} (h : mk x = x') : thenQ k R x E H = thenQ k R x' E H := by rw [← h]; rfl
@[congr] theorem g_blockQ {i : Nat} {R : AEx → Env → Heap → Prop} {x x' : AEx} {E : Env} {H : Heap} (h : mk x = x') : blockQ i R x E H = blockQ i R x' E H := by rw [← h]; rfl
@[congr] theorem g_finQ {rs : List ResultVar} {v : AV} {H' : Heap} {x x' : AEx} {E : Env} {H : Heap} (h : mk x = x') : finQ C rs n v H' x E H = finQ C rs n v H' x' E H := by rw [← h]; rfl
@[congr] theorem g_ares {E : Env} {H : Heap} {rs rs' : List ResultVar} {k} (h : mk rs = rs') : ares C E H rs k = ares C E H rs' k := by rw [← h]; rfl
@[congr] theorem g_dstOf {ops : List Oper} {j : Nat} {u : Nat} (h : mk 0 = u) : dstOf ops j = dstOf ops j := rfl
@[congr] theorem g_ev {F : Tmp → AV} {x x' : Operand} (h : mk x = x') : ev F x = ev F x' := by rw [← h]; rfl
@[congr] theorem g_look {E : Env} {t : Nat} {u : Nat} (h : mk 0 = u) : look E t = look E t := rfl
@[congr] theorem g_fills {F : Tmp → AV} {τ : Sh} {v v' : DV} {ps : List (Nat × Operand)} {k} (h : mk v = v') : fillsP F τ v ps k = fillsP F τ v' ps k := by rw [← h]; rfl
@[congr] theorem g_fillsL {F : Tmp → AV} {τ : Sh} {v v' : List DV} {ps : List (Nat × Operand)} {k} (h : mk v = v') : fillsLP F τ v ps k = fillsLP F τ v' ps k := by rw [← h]; rfl
@[congr] theorem g_bnd {F : Tmp → AV} {x : Option Operand} {d d' : Nat} {k} (h : mk d = d') : onBnd F x d k = onBnd F x d' k := by rw [← h]; rfl
end

/-- A function's contract by its body: the arguments' environment first. -/
theorem acall_of_code {C : Ctx} (hC : C.Ok) {f : FuncId} {fn : Func} {c : Code} {W : List Nat} {args : List AV} {H H' : Heap} {v : AV} (hf : C.P.funcs[f]? = some fn) (hb : fn.body = some c)
    (hname : (fn.name == "runtime.NumGoroutine") = false) {rs : List ResultVar} (hrs : fn.results.toList = rs) (hok : codeOk C fn.ntmps c = true) (hargs : args.length ≤ fn.ntmps)
    (h : force H fun H => force H.length fun n => force (argE args 0) fun E => acode C n W c E H (finQ C rs n v H')) : ACall C.P W f args H v H' :=
  acall_of_body hC hf hb hname hrs hok hargs h

/-! ### Ends of functions -/
theorem headW_nil {n : Nat} : headW n [] := fun i x h => by simp at h
theorem headW_data {A : Heap} {n : Nat} (h : ∀ B ∈ A, ∀ x, B ≠ .ref x) : headW n A := fun i x hi => absurd rfl (h _ (List.mem_of_getElem? hi) x)

/-- Nothing of the call's own is left. -/
theorem fin_drop {A L : Heap} {v : AV} (hh : headW A.length A) (hv : inScope A.length v) (hr : ren (sg A.length []) v = v) : fin A.length v (A ++ L) v A :=
  ⟨sg A.length [], ⟨A, L, [], [], rfl, rfl, by simp, List.nodup_nil, hh, rfl, trivial⟩, hv, hr.symm⟩
end Ink
