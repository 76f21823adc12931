/- The evaluator: one operation. What it asks is said as a proposition over plain data; 'aop_sound' says that this is enough. No conditions. -/
import Derived.Test.YtdooejjnjfgnjaaInk10
set_option linter.unusedVariables false
set_option linter.unusedSimpArgs false
namespace Ink
open Go

def onB (a : AV) (k : Bool → Prop) : Prop := match a with | .bool b => k b | _ => False
def onI (a : AV) (k : IntKind → Int → Prop) : Prop := match a with | .int j n => k j n | _ => False
def onD (a : AV) (k : Sh → DV → Prop) : Prop := match a with | .int j n => k (.int j) (.int j n) | .bool b => k .bool (.bool b) | .str s => k .str (.str s) | .agg τ v => k τ v | _ => False
def onAddr (a : AV) (k : Nat → List Nat → Sh → Prop) (r : Nat → Prop) : Prop := match a with | .ptr b p τ => k b p τ | .rptr b => r b | _ => False
def onPS (a : AV) (k : Nat → List Nat → Sh → Prop) (r : Nat → Nat → Nat → Prop) : Prop := match a with | .ptr b p τ => k b p τ | .slc b lo len => r b lo len | _ => False
def onAS (a : AV) (k : Sh → DV → Prop) (r : ByteArray → Prop) : Prop := match a with | .agg τ v => k τ v | .str s => r s | _ => False
def onTup (a : AV) (k : List AV → Prop) : Prop := match a with | .tup l => k l | _ => False
def onFn (a : AV) (k : FuncId → List AV → List AV → Prop) : Prop := match a with | .fn f c d => k f c d | _ => False
def onSome {α : Type} (x : Option α) (k : α → Prop) : Prop := match x with | some a => k a | none => False
def onSeq (B : Option Blk) (k : Bool → Sh → List DV → Prop) : Prop := match B with | some (.seq wr e l) => k wr e l | _ => False
def onRef (B : Option Blk) (k : AV → Prop) : Prop := match B with | some (.ref v) => k v | _ => False
def onArr (τ : Sh) (k : Nat → Sh → Prop) : Prop := match τ with | .arr n e => k n e | _ => False
def onInts (σ τ : Sh) (q : IntKind → Prop) : Prop := match σ, τ with | .int _, .int k => q k | _, _ => False
def onK (C : Ctx) (t : TypeId) (k : Sh → Prop) (r : AV → Prop) : Prop := match C.ty t, C.rf t with | some τ, _ => k τ | none, some z => r z | _, _ => False
def gsplit (b : Bool) (F : Bool → Prop) : Prop := (b = true → F true) ∧ (b = false → F false)
def isPtr (a : AV) : Prop := match a with | .ptr _ _ _ => True | .rptr _ => True | .fn _ _ _ => True | _ => False
def Sh.fldS (τ : Sh) (f : Nat) : Option Sh := match τ with | .arr _ _ => none | τ => τ.fld f

def onBnd (E : Tmp → AV) (x : Option Operand) (d : Nat) (k : Nat → Prop) : Prop := match x with | none => k d | some y => onI (ev E y) fun _ a => 0 ≤ a ∧ k a.toNat

def fillsP (E : Tmp → AV) (τ : Sh) : DV → List (Nat × Operand) → (DV → Prop) → Prop
  | v, [], k => k v
  | v, (i, x) :: r, k => onD (ev E x) fun s u => τ.fld i = some s ∧ fillsP E τ (v.set [i] u) r k
def fillsLP (E : Tmp → AV) (e : Sh) : List DV → List (Nat × Operand) → (List DV → Prop) → Prop
  | l, [], k => k l
  | l, (i, x) :: r, k => onD (ev E x) fun s u => s = e ∧ i < l.length ∧ fillsLP E e (l.set i u) r k

def acall (P : Program) (n : Nat) (W : List Nat) (f : FuncId) (args : List AV) (H : Heap) (K : AV → Heap → Prop) : Prop :=
  ∃ W' v H', ACall P W' f args H v H' ∧ (∀ i ∈ W', i < H.length → may n W i) ∧ K v H'

/-- A call that leaves the heap, at any heap that goes on from this one. -/
def qcall (P : Program) (f : FuncId) (args : List AV) (H : Heap) (K : AV → Prop) : Prop :=
  ∃ v, (∀ N, ACall P [] f args (H ++ N) v (H ++ N)) ∧ K v

def abin (C : Ctx) (op : BinOp) (t : TypeId) (x y : AV) (K : AV → Prop) : Prop := match x, y with
  | .int k a, .int k' b => if BinOp.isSh op then 0 ≤ b ∧ K (iSh op k a b) else k = k' ∧ (if BinOp.isDiv op then b ≠ 0 ∧ K (iBin op k a b) else K (iBin op k a b))
  | .bool a, .bool b => C.ty t = some .bool ∧ (if op = .eql then K (.bool (a == b)) else op = .neq ∧ K (.bool (a != b)))
  | .agg (.arr n (.int k)) a, .agg τ b => τ = .arr n (.int k) ∧ C.ty t = some (.arr n (.int k)) ∧ C.eq t = true ∧ (if op = .eql then K (.bool (eqD (.arr n (.int k)) a b)) else op = .neq ∧ K (.bool (!eqD (.arr n (.int k)) a b)))
  | .agg (.cons (.int k) (.cons (.int k') .unit)) (.cons (.int j a1) (.cons (.int j' a2) .unit)), .agg τ (.cons (.int i b1) (.cons (.int i' b2) .unit)) =>
    τ = .cons (.int k) (.cons (.int k') .unit) ∧ j = k ∧ j' = k' ∧ i = k ∧ i' = k' ∧ C.ty t = some (.cons (.int k) (.cons (.int k') .unit)) ∧ C.eq t = true ∧
      (if op = .eql then K (.bool (a1 == b1 && a2 == b2)) else op = .neq ∧ K (.bool (!(a1 == b1 && a2 == b2))))
  | _, _ => False

def onLen (C : Ctx) (t : TypeId) (a : AV) (k : Int → Prop) : Prop := match a with
  | .slc _ _ m => (C.sl t).isSome = true ∧ k m
  | .nils => (C.sl t).isSome = true ∧ k 0
  | .str s => C.ty t = some .str ∧ k s.size
  | .agg (.arr m e) _ => C.ty t = some (.arr m e) ∧ k m
  | _ => False

def abuiltin (C : Ctx) (n : Nat) (E : Tmp → AV) (H : Heap) (b : Builtin) (args : List Operand) (ts : List TypeId) (K : AV → Heap → Prop) : Prop := match b, args, ts with
  | .len, [x], [t] => onLen C t (ev E x) fun m => K (.int .i64 m) H
  | .max, [x, y], _ => onI (ev E x) fun k a => onI (ev E y) fun _ b => K (.int k (mm true a b)) H
  | .min, [x, y], _ => onI (ev E x) fun k a => onI (ev E y) fun _ b => K (.int k (mm false a b)) H
  | .max, [x, y, z], _ => onI (ev E x) fun k a => onI (ev E y) fun _ b => onI (ev E z) fun _ c => K (.int k (mm true (mm true a b) c)) H
  | .min, [x, y, z], _ => onI (ev E x) fun k a => onI (ev E y) fun _ b => onI (ev E z) fun _ c => K (.int k (mm false (mm false a b) c)) H
  | .append, [x, y], [t, t'] => onPS (ev E x) (fun _ _ _ => False) fun b lo m => onPS (ev E y) (fun _ _ _ => False) fun b2 lo2 m2 =>
      onSome (C.sl t) fun e => C.sl t' = some e ∧ lo = 0 ∧ n ≤ b ∧ m + m2 ≤ 1000000 ∧ onSeq H[b]? fun wr e1 l => wr = true ∧ e1 = e ∧ m ≤ l.length ∧ onSeq H[b2]? fun _ e2 l2 => e2 = e ∧ lo2 + m2 ≤ l2.length ∧
        K (.slc H.length 0 (m + m2)) (H.set b (.dead (.seq e)) ++ [.seq true e (l.take m ++ (l2.drop lo2).take m2)])
  | _, _, _ => False

def aop (C : Ctx) (n : Nat) (W : List Nat) (E : Tmp → AV) (H : Heap) (op : Op) (K : AV → Heap → Prop) : Prop := match op with
  | .move x => K (ev E x) H
  | .assign x => K (ev E x) H
  | .pick c x y => onB (ev E c) fun b => gsplit b fun t => K (if t then ev E x else ev E y) H
  | .alloc t => onK C t (fun τ => K (.ptr H.length [] τ) (H ++ [.data τ τ.zero])) (fun z => K (.rptr H.length) (H ++ [.ref z]))
  | .box t x => onK C t (fun _ => onD (ev E x) fun s v => K (.ptr H.length [] s) (H ++ [.data s v])) (fun _ => (ev E x).oneB = true ∧ K (.rptr H.length) (H ++ [.ref (ev E x)]))
  | .build t ps => onSome (C.ty t) fun τ => τ.agg = true ∧ fillsP E τ τ.zero ps.toList fun v => K (.agg τ v) H
  | .buildSlice t m ps => onSome (C.sl t) fun e => m ≤ 100 ∧ e.size ≤ 10000 ∧ fillsLP E e (List.replicate m e.zero) ps.toList fun l => K (.slc H.length 0 m) (H ++ [.seq true e l])
  | .load t x => onAddr (ev E x) (fun b p τ => C.ty t = some τ ∧ onSome H[b]? fun B => onSome (B.get? p) fun v => K (ofD τ v) H) (fun b => (C.rf t).isSome = true ∧ onRef H[b]? fun v => K v H)
  | .store t x y => onAddr (ev E x) (fun b p τ => C.ty t = some τ ∧ onD (ev E y) fun s v => s = τ ∧ may n W b ∧ onSome H[b]? fun B => onSome (B.set? p v) fun B' => K .junk (H.set b B'))
      (fun b => (C.rf t).isSome = true ∧ (ev E y).oneB = true ∧ may n W b ∧ onRef H[b]? fun _ => K .junk (H.set b (.ref (ev E y))))
  | .nilCheck x => isPtr (ev E x) ∧ K (ev E x) H
  | .binOp op t x y _ => abin C op t (ev E x) (ev E y) fun v => K v H
  | .unOp .not _ x => onB (ev E x) fun b => K (.bool (!b)) H
  | .unOp .neg _ x => onI (ev E x) fun k a => K (.int k (k.wrap (0 - a))) H
  | .convert s t x => onI (ev E x) fun _ a => onSome (C.ty s) fun σ => onSome (C.ty t) fun τ => onInts σ τ fun k => K (.int k (k.wrap a)) H
  | .makeFunc (.func f) first capt => K (.fn f (first.toList.map (ev E)) (capt.toList.map (ev E))) H
  | .makeSlice t x y => onSome (C.sl t) fun e => onI (ev E x) fun _ a => onI (ev E y) fun _ b => 0 ≤ a ∧ a ≤ 1048576 ∧ b = a ∧ K (.slc H.length 0 a.toNat) (H ++ [.seq true e (List.replicate a.toNat e.zero)])
  | .slice t x lo hi none => onSome (C.sl t) fun e => onPS (ev E x) (fun _ _ _ => False) fun b off m => onSeq H[b]? fun _ e' _ => e' = e ∧ onBnd E lo 0 fun l => onBnd E hi m fun h => l ≤ h ∧ h ≤ m ∧ K (.slc b (off + l) (h - l)) H
  | .fieldAddr t x f => onAddr (ev E x) (fun b p τ => C.ty t = some τ ∧ onSome (τ.fldS f) fun s => K (.ptr b (p ++ [f]) s) H) (fun _ => False)
  | .field t x f => onAS (ev E x) (fun τ v => C.ty t = some τ ∧ onSome (τ.fldS f) fun s => K (ofD s (v.get [f])) H) (fun _ => False)
  | .indexAddr t x y => onPS (ev E x) (fun b p τ => onArr τ fun m e => C.ty t = some (.arr m e) ∧ onI (ev E y) fun _ i => 0 ≤ i ∧ i < (m : Int) ∧ K (.ptr b (p ++ [i.toNat]) e) H)
      (fun b lo len => onSome (C.sl t) fun e => onSeq H[b]? fun _ e' _ => e' = e ∧ onI (ev E y) fun _ i => 0 ≤ i ∧ i < (len : Int) ∧ K (.ptr b [lo + i.toNat] e) H)
  | .index t x y => onAS (ev E x) (fun τ v => onArr τ fun m e => C.ty t = some (.arr m e) ∧ onI (ev E y) fun _ i => 0 ≤ i ∧ i < (m : Int) ∧ K (ofD e (v.get [i.toNat])) H)
      (fun s => C.ty t = some .str ∧ onI (ev E y) fun _ i => 0 ≤ i ∧ onSome s[i.toNat]? fun c => K (.int .u8 c.toNat) H)
  | .extract x i => onTup (ev E x) fun l => onSome l[i]? fun v => K v H
  | .call ⟨.value (.func f), args, _⟩ => if C.quiet f then qcall C.P f (args.toList.map (ev E)) H fun v => K v H else acall C.P n W f (args.toList.map (ev E)) H K
  | .call ⟨.value (.tmp t), args, _⟩ => onFn (E t) fun f c d => acall C.P n W f (c ++ args.toList.map (ev E) ++ d) H K
  | .call ⟨.builtin b, args, ts⟩ => abuiltin C n E H b args.toList ts.toList K
  | _ => False

def clsOp (C : Ctx) : Op → Cls
  | .load _ _ => .read
  | .slice _ _ _ _ _ => .read
  | .indexAddr t _ _ => if (C.sl t).isSome then .read else .pure
  | .alloc _ => .new
  | .box _ _ => .new
  | .buildSlice _ _ _ => .new
  | .makeSlice _ _ _ => .new
  | .store _ _ _ => .eff
  | .call ⟨.value (.func f), _, _⟩ => if C.quiet f then .read else .eff
  | .call ⟨.value _, _, _⟩ => .eff
  | .call ⟨.builtin .append, _, _⟩ => .eff
  | _ => .pure

theorem fillsP_sound {E τ} : ∀ {ps : List (Nat × Operand)} {v : DV} {k : DV → Prop}, fillsP E τ v ps k → ∃ v', Fills τ v (ps.map fun p => (p.1, ev E p.2)) v' ∧ k v'
  | [], v, k, h => ⟨v, .nil v, h⟩
  | (i, x) :: r, v, k, h => by
    simp only [fillsP, onD] at h
    split at h <;> first | (exact h.elim) | skip
    all_goals
      rename_i hx
      obtain ⟨hf, h⟩ := h
      obtain ⟨v', h1, h2⟩ := fillsP_sound h
      refine ⟨v', .cons ?_ hf h1, h2⟩
      rw [hx]
      constructor

theorem fillsLP_sound {E e} : ∀ {ps : List (Nat × Operand)} {l : List DV} {k : List DV → Prop}, fillsLP E e l ps k → ∃ l', FillsL e l (ps.map fun p => (p.1, ev E p.2)) l' ∧ k l'
  | [], v, k, h => ⟨v, .nil v, h⟩
  | (i, x) :: r, v, k, h => by
    simp only [fillsLP, onD] at h
    split at h <;> first | (exact h.elim) | skip
    all_goals
      rename_i hx
      obtain ⟨hf, hi, h⟩ := h
      subst hf
      obtain ⟨v', h1, h2⟩ := fillsLP_sound h
      refine ⟨v', .cons ?_ hi h1, h2⟩
      rw [hx]
      constructor

theorem onD_spec {a : AV} {k : Sh → DV → Prop} (h : onD a k) : ∃ s v, IsD a s v ∧ k s v := by
  unfold onD at h
  split at h <;> first | (exact h.elim) | exact ⟨_, _, by constructor, h⟩
theorem onI_spec {a : AV} {k : IntKind → Int → Prop} (h : onI a k) : ∃ j n, a = .int j n ∧ k j n := by
  unfold onI at h
  split at h <;> first | (exact h.elim) | exact ⟨_, _, rfl, h⟩
theorem onB_spec {a : AV} {k : Bool → Prop} (h : onB a k) : ∃ b, a = .bool b ∧ k b := by
  unfold onB at h
  split at h <;> first | (exact h.elim) | exact ⟨_, rfl, h⟩
theorem onSome_spec {α : Type} {x : Option α} {k : α → Prop} (h : onSome x k) : ∃ a, x = some a ∧ k a := by
  unfold onSome at h
  split at h <;> first | (exact h.elim) | exact ⟨_, rfl, h⟩
theorem onSeq_spec {B : Option Blk} {k : Bool → Sh → List DV → Prop} (h : onSeq B k) : ∃ wr e l, B = some (.seq wr e l) ∧ k wr e l := by
  unfold onSeq at h
  split at h <;> first | (exact h.elim) | exact ⟨_, _, _, rfl, h⟩
theorem onRef_spec {B : Option Blk} {k : AV → Prop} (h : onRef B k) : ∃ v, B = some (.ref v) ∧ k v := by
  unfold onRef at h
  split at h <;> first | (exact h.elim) | exact ⟨_, rfl, h⟩
theorem onArr_spec {τ : Sh} {k : Nat → Sh → Prop} (h : onArr τ k) : ∃ n e, τ = .arr n e ∧ k n e := by
  unfold onArr at h
  split at h <;> first | (exact h.elim) | exact ⟨_, _, rfl, h⟩
theorem onTup_spec {a : AV} {k : List AV → Prop} (h : onTup a k) : ∃ l, a = .tup l ∧ k l := by
  unfold onTup at h
  split at h <;> first | (exact h.elim) | exact ⟨_, rfl, h⟩
theorem onFn_spec {a : AV} {k : FuncId → List AV → List AV → Prop} (h : onFn a k) : ∃ f c d, a = .fn f c d ∧ k f c d := by
  unfold onFn at h
  split at h <;> first | (exact h.elim) | exact ⟨_, _, _, rfl, h⟩
theorem onAddr_spec {a : AV} {k : Nat → List Nat → Sh → Prop} {r : Nat → Prop} (h : onAddr a k r) : (∃ b p τ, a = .ptr b p τ ∧ k b p τ) ∨ (∃ b, a = .rptr b ∧ r b) := by
  unfold onAddr at h
  split at h <;> first | (exact h.elim) | exact .inl ⟨_, _, _, rfl, h⟩ | exact .inr ⟨_, rfl, h⟩
theorem onPS_spec {a : AV} {k : Nat → List Nat → Sh → Prop} {r : Nat → Nat → Nat → Prop} (h : onPS a k r) : (∃ b p τ, a = .ptr b p τ ∧ k b p τ) ∨ (∃ b lo len, a = .slc b lo len ∧ r b lo len) := by
  unfold onPS at h
  split at h <;> first | (exact h.elim) | exact .inl ⟨_, _, _, rfl, h⟩ | exact .inr ⟨_, _, _, rfl, h⟩
theorem onAS_spec {a : AV} {k : Sh → DV → Prop} {r : ByteArray → Prop} (h : onAS a k r) : (∃ τ v, a = .agg τ v ∧ k τ v) ∨ (∃ s, a = .str s ∧ r s) := by
  unfold onAS at h
  split at h <;> first | (exact h.elim) | exact .inl ⟨_, _, rfl, h⟩ | exact .inr ⟨_, rfl, h⟩
theorem onK_spec {C : Ctx} {t : TypeId} {k : Sh → Prop} {r : AV → Prop} (h : onK C t k r) : (∃ τ, C.ty t = some τ ∧ k τ) ∨ (∃ z, C.rf t = some z ∧ r z) := by
  unfold onK at h
  split at h <;> first | (exact h.elim) | exact .inl ⟨_, by assumption, h⟩ | exact .inr ⟨_, by assumption, h⟩
theorem onBnd_spec {E : Tmp → AV} {x : Option Operand} {d : Nat} {k : Nat → Prop} (h : onBnd E x d k) : ∃ l, bnd E x d l ∧ k l := by
  unfold onBnd at h
  split at h
  · exact ⟨d, rfl, h⟩
  · obtain ⟨j, a, h1, h2, h3⟩ := onI_spec h
    exact ⟨a.toNat, ⟨j, by rw [h1]; simp [Int.toNat_of_nonneg h2]⟩, h3⟩
theorem fldS_spec {τ s : Sh} {f : Nat} (h : τ.fldS f = some s) : τ.fld f = some s ∧ ∀ n e, τ ≠ .arr n e := by
  cases τ <;> simp only [Sh.fldS] at h <;> first | (cases h; done) | exact ⟨h, fun _ _ h => by cases h⟩

def blkOf : AV → Option Nat
  | .ptr b _ _ => some b
  | .rptr b => some b
  | _ => none
/-- A load reads one block only, a store writes one block only. -/
structure MemIs (C : Ctx) (n : Nat) (W : List Nat) (E : Tmp → AV) (H : Heap) (op : Op) (v : AV) (H' : Heap) : Prop where
  ld : ∀ t x, op = .load t x → (∀ b, blkOf (ev E x) = some b → b < H.length) ∧ ∀ G o H2, G.S.length = n → G.W = W → o.op = op → (∀ b, blkOf (ev E x) = some b → H2[b]? = H[b]?) → OpStep C.P G o E H2 v H2
  st : ∀ t x y, op = .store t x y → ∃ b B', blkOf (ev E x) = some b ∧ H' = H.set b B'
theorem MemIs.no {C : Ctx} {n : Nat} {W : List Nat} {E : Tmp → AV} {H : Heap} {op : Op} {v : AV} {H' : Heap} (hm : ∀ t x, op ≠ .load t x) (hs : ∀ t x y, op ≠ .store t x y) : MemIs C n W E H op v H' :=
  ⟨fun t x e => absurd e (hm t x), fun t x y e => absurd e (hs t x y)⟩
/-- What one operation does, as 'aop' has it. -/
def OpIs (C : Ctx) (n : Nat) (W : List Nat) (E : Tmp → AV) (H : Heap) (op : Op) (v : AV) (H' : Heap) : Prop :=
  (∀ G o, G.S.length = n → G.W = W → o.op = op → OpStep C.P G o E H v H') ∧ (heavy (clsOp C op) = false → H' = H) ∧ (clsOp C op = .pure → ∀ G o H2, G.S.length = n → G.W = W → o.op = op → OpStep C.P G o E H2 v H2) ∧
    (clsOp C op = .read → ∀ G o N, G.S.length = n → G.W = W → o.op = op → OpStep C.P G o E (H ++ N) v (H ++ N)) ∧ (clsOp C op = .new → ∃ N, H' = H ++ N) ∧ MemIs C n W E H op v H'

theorem OpIs.read {C : Ctx} {n : Nat} {W : List Nat} {E : Tmp → AV} {H : Heap} {op : Op} {v : AV} (hp : clsOp C op ≠ .pure) (hn : clsOp C op ≠ .new) (h : ∀ G o N, G.S.length = n → G.W = W → o.op = op → OpStep C.P G o E (H ++ N) v (H ++ N)) (hm : ∀ t x, op ≠ .load t x := by intros; nofun) (hs : ∀ t x y, op ≠ .store t x y := by intros; nofun) : OpIs C n W E H op v H :=
  ⟨fun G o a b c => by simpa using h G o [] a b c, fun _ => rfl, fun e => absurd e hp, fun _ G o N => h G o N, fun e => absurd e hn, .no hm hs⟩
theorem OpIs.any {C : Ctx} {n : Nat} {W : List Nat} {E : Tmp → AV} {H : Heap} {op : Op} {v : AV} (hp : clsOp C op = .pure ∨ clsOp C op = .read) (h : ∀ G o H2, G.S.length = n → G.W = W → o.op = op → OpStep C.P G o E H2 v H2) (hm : ∀ t x, op ≠ .load t x := by intros; nofun) (hs : ∀ t x y, op ≠ .store t x y := by intros; nofun) : OpIs C n W E H op v H :=
  ⟨fun G o => h G o _, fun _ => rfl, fun _ G o H2 => h G o H2, fun _ G o N => h G o _, fun e => (by rcases hp with hp | hp <;> rw [hp] at e <;> cases e), .no hm hs⟩
theorem OpIs.call {C : Ctx} {n : Nat} {W : List Nat} {E : Tmp → AV} {H : Heap} {op : Op} {v : AV} (hp : clsOp C op = .call) (h : ∀ G o, G.S.length = n → G.W = W → o.op = op → OpStep C.P G o E H v H) (hm : ∀ t x, op ≠ .load t x := by intros; nofun) (hs : ∀ t x y, op ≠ .store t x y := by intros; nofun) : OpIs C n W E H op v H :=
  ⟨h, fun _ => rfl, fun e => (by rw [hp] at e; cases e), fun e => (by rw [hp] at e; cases e), fun e => (by rw [hp] at e; cases e), .no hm hs⟩
theorem OpIs.eff {C : Ctx} {n : Nat} {W : List Nat} {E : Tmp → AV} {H H' : Heap} {op : Op} {v : AV} (hp : clsOp C op = .eff) (h : ∀ G o, G.S.length = n → G.W = W → o.op = op → OpStep C.P G o E H v H') (hm : ∀ t x, op ≠ .load t x := by intros; nofun) (hs : ∀ t x y, op ≠ .store t x y := by intros; nofun) : OpIs C n W E H op v H' :=
  ⟨h, fun e => (by rw [hp] at e; cases e), fun e => (by rw [hp] at e; cases e), fun e => (by rw [hp] at e; cases e), fun e => (by rw [hp] at e; cases e), .no hm hs⟩
theorem OpIs.new {C : Ctx} {n : Nat} {W : List Nat} {E : Tmp → AV} {H N : Heap} {op : Op} {v : AV} (hp : clsOp C op = .new) (h : ∀ G o, G.S.length = n → G.W = W → o.op = op → OpStep C.P G o E H v (H ++ N)) (hm : ∀ t x, op ≠ .load t x := by intros; nofun) (hs : ∀ t x y, op ≠ .store t x y := by intros; nofun) : OpIs C n W E H op v (H ++ N) :=
  ⟨h, fun e => (by rw [hp] at e; cases e), fun e => (by rw [hp] at e; cases e), fun e => (by rw [hp] at e; cases e), fun _ => ⟨N, rfl⟩, .no hm hs⟩
theorem OpIs.ld {C : Ctx} {n : Nat} {W : List Nat} {E : Tmp → AV} {H : Heap} {t : TypeId} {x : Operand} {v : AV} {b : Nat} (hb : blkOf (ev E x) = some b) (hl : b < H.length) (h : ∀ G o H2, G.S.length = n → G.W = W → o.op = .load t x → H2[b]? = H[b]? → OpStep C.P G o E H2 v H2) : OpIs C n W E H (.load t x) v H := by
  refine ⟨fun G o h1 h2 h3 => h G o H h1 h2 h3 rfl, fun _ => rfl, fun e => Cls.noConfusion e, fun _ G o N h1 h2 h3 => h G o _ h1 h2 h3 (by rw [List.getElem?_append_left hl]), fun e => Cls.noConfusion e, ⟨fun t' x' e => ?_, fun _ _ _ e => by cases e⟩⟩
  cases e
  exact ⟨fun b' hb' => by rw [hb] at hb'; cases hb'; exact hl, fun G o H2 h1 h2 h3 h4 => h G o H2 h1 h2 h3 (h4 b hb)⟩
theorem OpIs.st {C : Ctx} {n : Nat} {W : List Nat} {E : Tmp → AV} {H : Heap} {t : TypeId} {x y : Operand} {v : AV} {b : Nat} {B' : Blk} (hb : blkOf (ev E x) = some b) (h : ∀ G o, G.S.length = n → G.W = W → o.op = .store t x y → OpStep C.P G o E H v (H.set b B')) : OpIs C n W E H (.store t x y) v (H.set b B') := by
  refine ⟨h, fun e => (by cases e), fun e => (by cases e), fun e => (by cases e), fun e => (by cases e), ⟨fun _ _ e => (by cases e), fun t' x' y' e => ?_⟩⟩
  cases e
  exact ⟨b, B', hb, rfl⟩
theorem get_app {H N : Heap} {b : Nat} {B : Blk} (h : H[b]? = some B) : (H ++ N)[b]? = some B := by
  rw [List.getElem?_append_left (List.getElem?_eq_some_iff.1 h).1]; exact h

theorem aop_sound {C : Ctx} (hC : C.Ok) {n : Nat} {W : List Nat} {E : Tmp → AV} {H : Heap} {op : Op} {K : AV → Heap → Prop} (h : aop C n W E H op K) : ∃ v H', OpIs C n W E H op v H' ∧ K v H' := by
  have sl' : ∀ {t e}, C.sl t = some e → SlOk C.P t e := fun h => hC.sl _ _ h
  cases op with
  | move x => exact ⟨_, H, .any (.inl rfl) fun G o N _ _ ho => step_move ho, h⟩
  | assign x => exact ⟨_, H, .any (.inl rfl) fun G o N _ _ ho => step_assign ho, h⟩
  | pick c x y =>
    obtain ⟨b, hb, h1, h2⟩ := onB_spec (show onB _ _ from h)
    cases b
    · exact ⟨_, H, .any (.inl rfl) fun G o N _ _ ho => step_pick ho hb, h2 rfl⟩
    · exact ⟨_, H, .any (.inl rfl) fun G o N _ _ ho => step_pick ho hb, h1 rfl⟩
  | alloc t =>
    rcases onK_spec (show onK _ _ _ _ from h) with ⟨τ, h1, h2⟩ | ⟨z, h1, h2⟩
    · exact ⟨_, _, .new rfl fun G o _ _ ho => step_alloc ho (hC.ty _ _ h1), h2⟩
    · exact ⟨_, _, .new rfl fun G o _ _ ho => step_allocref ho (hC.rf _ _ h1), h2⟩
  | box t x =>
    rcases onK_spec (show onK _ _ _ _ from h) with ⟨τ, h1, h2⟩ | ⟨z, h1, h2, h3⟩
    · obtain ⟨s, v, h3, h4⟩ := onD_spec h2
      exact ⟨_, _, .new rfl fun G o _ _ ho => step_box ho h3, h4⟩
    · exact ⟨_, _, .new rfl fun G o _ _ ho => step_boxref ho h2, h3⟩
  | build t ps =>
    obtain ⟨τ, h1, h2, h3⟩ := onSome_spec (show onSome _ _ from h)
    obtain ⟨v, h4, h5⟩ := fillsP_sound h3
    exact ⟨_, H, .any (.inl rfl) fun G o N _ _ ho => step_build ho (hC.ty _ _ h1) h2 h4, h5⟩
  | buildSlice t m ps =>
    obtain ⟨e, h1, h2, h2', h3⟩ := onSome_spec (show onSome _ _ from h)
    obtain ⟨v, h4, h5⟩ := fillsLP_sound h3
    exact ⟨_, _, .new rfl fun G o _ _ ho => step_buildSlice ho (sl' h1) h2 h2' h4, h5⟩
  | load t x =>
    rcases onAddr_spec (show onAddr _ _ _ from h) with ⟨b, p, τ, h1, h2, h3⟩ | ⟨b, h1, h2, h3⟩
    · obtain ⟨B, h4, h5⟩ := onSome_spec h3
      obtain ⟨v, h6, h7⟩ := onSome_spec h5
      exact ⟨_, H, .ld (b := b) (by rw [h1]; rfl) (List.getElem?_eq_some_iff.1 h4).1 fun G o H2 _ _ ho hH => step_load ho h1 (hC.ty _ _ h2) (by rw [hH]; exact h4) h6, h7⟩
    · obtain ⟨v, h4, h5⟩ := onRef_spec h3
      obtain ⟨z, hz⟩ := Option.isSome_iff_exists.1 h2
      exact ⟨_, H, .ld (b := b) (by rw [h1]; rfl) (List.getElem?_eq_some_iff.1 h4).1 fun G o H2 _ _ ho hH => step_loadref ho h1 (hC.rf _ _ hz) (by rw [hH]; exact h4), h5⟩
  | store t x y =>
    rcases onAddr_spec (show onAddr _ _ _ from h) with ⟨b, p, τ, h1, h2, h3⟩ | ⟨b, h1, h2, h3, h4, h5⟩
    · obtain ⟨s, v, h4, rfl, h6, h7⟩ := onD_spec h3
      obtain ⟨B, h8, h9⟩ := onSome_spec h7
      obtain ⟨B', h10, h11⟩ := onSome_spec h9
      exact ⟨_, _, .st (by rw [h1]; rfl) fun G o hn hW ho => step_store ho h1 (hC.ty _ _ h2) h4 (by subst hn; subst hW; exact h6) h8 h10, h11⟩
    · obtain ⟨v, h6, h7⟩ := onRef_spec h5
      obtain ⟨z, hz⟩ := Option.isSome_iff_exists.1 h2
      exact ⟨_, _, .st (by rw [h1]; rfl) fun G o hn hW ho => step_storeref ho h1 (hC.rf _ _ hz) h3 (by subst hn; subst hW; exact h4) h6, h7⟩
  | nilCheck x =>
    obtain ⟨h1, h2⟩ := (show isPtr _ ∧ _ from h)
    refine ⟨_, H, .any (.inl rfl) fun G o N _ _ ho => step_nilCheck ho ?_, h2⟩
    unfold isPtr at h1
    split at h1 <;> first | (exact h1.elim) | (rename_i hh; exact .inl ⟨_, _, _, hh⟩) | (rename_i hh; exact .inr (.inl ⟨_, hh⟩)) | (rename_i hh; exact .inr (.inr ⟨_, _, _, hh⟩))
  | binOp op t x y u =>
    have h' : abin C op t (ev E x) (ev E y) fun v => K v H := h
    clear h
    unfold abin at h'
    split at h'
    · rename_i k a k' b hx hy
      split at h'
      · rename_i hs
        exact ⟨_, H, .any (.inl rfl) fun G o N _ _ ho => step_shift ho hx hy hs h'.1, h'.2⟩
      · rename_i hs
        have hs' : BinOp.isSh op = false := by simpa using hs
        obtain ⟨rfl, h'⟩ := h'
        split at h'
        · exact ⟨_, H, .any (.inl rfl) fun G o N _ _ ho => step_bin ho hx hy hs' (fun _ => h'.1), h'.2⟩
        · rename_i hd
          exact ⟨_, H, .any (.inl rfl) fun G o N _ _ ho => step_bin ho hx hy hs' (fun e => absurd e hd), h'⟩
    · rename_i a b hx hy
      obtain ⟨ht, h'⟩ := h'
      split at h'
      · rename_i hop
        exact ⟨_, H, .any (.inl rfl) fun G o N _ _ ho => step_boolcmp ho hx hy (hC.ty _ _ ht) (.inl hop), by rw [if_pos hop]; exact h'⟩
      · rename_i hop
        exact ⟨_, H, .any (.inl rfl) fun G o N _ _ ho => step_boolcmp ho hx hy (hC.ty _ _ ht) (.inr h'.1), by rw [if_neg hop]; exact h'.2⟩
    · rename_i m k a τ b hx hy
      obtain ⟨rfl, ht, he, h'⟩ := h'
      split at h'
      · rename_i hop
        exact ⟨_, H, .any (.inl rfl) fun G o N _ _ ho => step_eqArr ho hx hy (.inl hop) (hC.ty _ _ ht) (hC.eq _ he).1, by rw [if_pos hop]; exact h'⟩
      · rename_i hop
        exact ⟨_, H, .any (.inl rfl) fun G o N _ _ ho => step_eqArr ho hx hy (.inr h'.1) (hC.ty _ _ ht) (hC.eq _ he).1, by rw [if_neg hop]; exact h'.2⟩
    · rename_i k k' j a1 j' a2 τ i b1 i' b2 hx hy
      obtain ⟨rfl, rfl, rfl, rfl, rfl, ht, he, h'⟩ := h'
      obtain ⟨g1, g2, g3⟩ := hC.eq _ he
      have hty := hC.ty _ _ ht
      have hty' := hty
      simp only [TyOk] at hty'
      obtain ⟨⟨fs, f, r, k1, k2, k3, k4, k5, k6⟩, _⟩ := hty'
      have hr : ∃ g, r = [g] := by
        cases r with
        | nil => simp [FldOk] at k6
        | cons g r =>
          cases r with
          | nil => exact ⟨g, rfl⟩
          | cons _ _ => simp [FldOk] at k6
      obtain ⟨g, rfl⟩ := hr
      have hn : f.name ≠ "_" ∧ g.name ≠ "_" := ⟨g3 fs k1 f (by rw [k2]; simp), g3 fs k1 g (by rw [k2]; simp)⟩
      split at h'
      · rename_i hop
        exact ⟨_, H, .any (.inl rfl) fun G o N _ _ ho => step_eqTwo ho hx hy (.inl hop) hty g1 g2 k1 k2 hn, by rw [if_pos hop]; exact h'⟩
      · rename_i hop
        exact ⟨_, H, .any (.inl rfl) fun G o N _ _ ho => step_eqTwo ho hx hy (.inr h'.1) hty g1 g2 k1 k2 hn, by rw [if_neg hop]; exact h'.2⟩
    · exact h'.elim
  | unOp op t x =>
    cases op with
    | not =>
      obtain ⟨b, hb, h1⟩ := onB_spec (show onB _ _ from h)
      exact ⟨_, H, .any (.inl rfl) fun G o N _ _ ho => step_not ho hb, h1⟩
    | neg =>
      obtain ⟨k, a, hb, h1⟩ := onI_spec (show onI _ _ from h)
      exact ⟨_, H, .any (.inl rfl) fun G o N _ _ ho => step_neg ho hb, h1⟩
    | _ => exact h.elim
  | convert s t x =>
    obtain ⟨j, a, h1, h2⟩ := onI_spec (show onI _ _ from h)
    obtain ⟨σ, h3, h4⟩ := onSome_spec h2
    obtain ⟨τ, h5, h6⟩ := onSome_spec h4
    unfold onInts at h6
    split at h6
    · exact ⟨_, H, .any (.inl rfl) fun G o N _ _ ho => step_convert ho h1 (hC.ty _ _ h3) (hC.ty _ _ h5), h6⟩
    · exact h6.elim
  | makeFunc fn first capt =>
    cases fn with
    | func f => exact ⟨_, H, .any (.inl rfl) fun G o N _ _ ho => step_makeFunc ho, h⟩
    | _ => exact h.elim
  | makeSlice t x y =>
    obtain ⟨e, h1, h2⟩ := onSome_spec (show onSome _ _ from h)
    obtain ⟨k, a, h3, h4⟩ := onI_spec h2
    obtain ⟨k', b, h5, h6, h7, rfl, h8⟩ := onI_spec h4
    have ha : b = ((b.toNat : Nat) : Int) := (Int.toNat_of_nonneg h6).symm
    exact ⟨_, _, .new rfl fun G o _ _ ho => step_makeSlice ho (sl' h1) (by rw [h3, ← ha]) (by rw [h5, ← ha]) (by omega), h8⟩
  | slice t x lo hi mx =>
    cases mx with
    | some _ => exact h.elim
    | none =>
      obtain ⟨e, h1, h2⟩ := onSome_spec (show onSome _ _ from h)
      rcases onPS_spec h2 with ⟨_, _, _, _, h3⟩ | ⟨b, off, m, h3, h4⟩
      · exact h3.elim
      · obtain ⟨wr, e', l, h5, rfl, h6⟩ := onSeq_spec h4
        obtain ⟨l', h7, h8⟩ := onBnd_spec h6
        obtain ⟨h', h9, h10, h11, h12⟩ := onBnd_spec h8
        exact ⟨_, H, .read (fun e => Cls.noConfusion e) (fun e => Cls.noConfusion e) fun G o N _ _ ho => step_slice ho h3 (sl' h1) (shs_get (get_app h5)) h7 h9 h10 h11, h12⟩
  | fieldAddr t x f =>
    rcases onAddr_spec (show onAddr _ _ _ from h) with ⟨b, p, τ, h1, h2, h3⟩ | ⟨b, h1, h2⟩
    · obtain ⟨s, h4, h5⟩ := onSome_spec h3
      obtain ⟨h6, h7⟩ := fldS_spec h4
      exact ⟨_, H, .any (.inl rfl) fun G o N _ _ ho => step_fieldAddr ho h1 (hC.ty _ _ h2) h7 h6, h5⟩
    · exact h2.elim
  | field t x f =>
    rcases onAS_spec (show onAS _ _ _ from h) with ⟨τ, v, h1, h2, h3⟩ | ⟨b, h1, h2⟩
    · obtain ⟨s, h4, h5⟩ := onSome_spec h3
      obtain ⟨h6, h7⟩ := fldS_spec h4
      exact ⟨_, H, .any (.inl rfl) fun G o N _ _ ho => step_field ho h1 (hC.ty _ _ h2) h7 h6, h5⟩
    · exact h2.elim
  | indexAddr t x y =>
    rcases onPS_spec (show onPS _ _ _ from h) with ⟨b, p, τ, h1, h2⟩ | ⟨b, lo, len, h1, h2⟩
    · obtain ⟨m, e, rfl, h3, h4⟩ := onArr_spec h2
      obtain ⟨k, i, h5, h6, h7, h8⟩ := onI_spec h4
      exact ⟨_, H, .any (by simp only [clsOp]; cases (C.sl t).isSome <;> simp) fun G o N _ _ ho => step_indexAddr ho h1 h5 (hC.ty _ _ h3) h6 h7, h8⟩
    · obtain ⟨e, h3, h4⟩ := onSome_spec h2
      obtain ⟨wr, e', l, h5, rfl, h6⟩ := onSeq_spec h4
      obtain ⟨k, i, h7, h8, h9, h10⟩ := onI_spec h6
      exact ⟨_, H, .read (by simp [clsOp, h3]) (by simp [clsOp, h3]) fun G o N _ _ ho => step_indexSl ho h1 h7 (sl' h3) (shs_get (get_app h5)) h8 h9, h10⟩
  | index t x y =>
    rcases onAS_spec (show onAS _ _ _ from h) with ⟨τ, v, h1, h2⟩ | ⟨s, h1, h2, h3⟩
    · obtain ⟨m, e, rfl, h3, h4⟩ := onArr_spec h2
      obtain ⟨k, i, h5, h6, h7, h8⟩ := onI_spec h4
      exact ⟨_, H, .any (.inl rfl) fun G o N _ _ ho => step_index ho h1 h5 (hC.ty _ _ h3) h6 h7, h8⟩
    · obtain ⟨k, i, h5, h6, h7⟩ := onI_spec h3
      obtain ⟨c, h8, h9⟩ := onSome_spec h7
      exact ⟨_, H, .any (.inl rfl) fun G o N _ _ ho => step_indexStr ho h1 h5 (hC.ty _ _ h2) h6 h8, h9⟩
  | extract x i =>
    obtain ⟨l, h1, h2⟩ := onTup_spec (show onTup _ _ from h)
    obtain ⟨v, h3, h4⟩ := onSome_spec h2
    exact ⟨_, H, .any (.inl rfl) fun G o N _ _ ho => step_extract ho h1 h3, h4⟩
  | call c =>
    obtain ⟨callee, args, ts⟩ := c
    cases callee with
    | value f =>
      cases f with
      | func f =>
        simp only [aop] at h
        split at h
        · rename_i hq
          obtain ⟨v, h1, h4⟩ := h
          exact ⟨v, _, .read (by simp [clsOp, hq]) (by simp [clsOp, hq]) fun G o N hn hW ho => step_call ho (h1 N) (fun i hi => by simp at hi), h4⟩
        · rename_i hq
          obtain ⟨W', v, H', h1, h2, h4⟩ := h
          exact ⟨v, _, .eff (by simp [clsOp, hq]) fun G o hn hW ho => step_call ho h1 (by subst hn; subst hW; exact h2), h4⟩
      | tmp t =>
        obtain ⟨f, c, d, h0, W', v, H', h1, h2, h4⟩ := onFn_spec (show onFn _ _ from h)
        exact ⟨v, _, .eff rfl fun G o hn hW ho => step_callfn ho h0 h1 (by subst hn; subst hW; exact h2), h4⟩
      | _ => exact h.elim
    | invoke _ _ => exact h.elim
    | builtin b =>
      have h' : abuiltin C n E H b args.toList ts.toList K := h
      clear h
      obtain ⟨args⟩ := args
      obtain ⟨ts⟩ := ts
      simp only at h'
      unfold abuiltin at h'
      split at h'
      · rename_i x t
        unfold onLen at h'
        split at h'
        · rename_i hx
          obtain ⟨e, he⟩ := Option.isSome_iff_exists.1 h'.1
          exact ⟨_, H, .any (.inl rfl) fun G o N _ _ ho => step_lenSl ho hx (sl' he), h'.2⟩
        · rename_i hx
          obtain ⟨e, he⟩ := Option.isSome_iff_exists.1 h'.1
          exact ⟨_, H, .any (.inl rfl) fun G o N _ _ ho => step_lenNils ho hx (sl' he), h'.2⟩
        · rename_i hx
          exact ⟨_, H, .any (.inl rfl) fun G o N _ _ ho => step_lenStr ho hx (hC.ty _ _ h'.1), h'.2⟩
        · exact ⟨_, H, .any (.inl rfl) fun G o N _ _ ho => step_lenArr ho (hC.ty _ _ h'.1), h'.2⟩
        · exact h'.elim
      · rename_i x y
        obtain ⟨k, a, h1, h2⟩ := onI_spec h'
        obtain ⟨k', b, h3, h4⟩ := onI_spec h2
        exact ⟨_, H, .any (.inl rfl) fun G o N _ _ ho => step_mm2 (mx := true) ho h1 h3, h4⟩
      · rename_i x y
        obtain ⟨k, a, h1, h2⟩ := onI_spec h'
        obtain ⟨k', b, h3, h4⟩ := onI_spec h2
        exact ⟨_, H, .any (.inl rfl) fun G o N _ _ ho => step_mm2 (mx := false) ho h1 h3, h4⟩
      · rename_i x y z
        obtain ⟨k, a, h1, h2⟩ := onI_spec h'
        obtain ⟨k', b, h3, h4⟩ := onI_spec h2
        obtain ⟨k'', c, h5, h6⟩ := onI_spec h4
        exact ⟨_, H, .any (.inl rfl) fun G o N _ _ ho => step_mm3 (mx := true) ho h1 h3 h5, h6⟩
      · rename_i x y z
        obtain ⟨k, a, h1, h2⟩ := onI_spec h'
        obtain ⟨k', b, h3, h4⟩ := onI_spec h2
        obtain ⟨k'', c, h5, h6⟩ := onI_spec h4
        exact ⟨_, H, .any (.inl rfl) fun G o N _ _ ho => step_mm3 (mx := false) ho h1 h3 h5, h6⟩
      · rename_i x y t t'
        rcases onPS_spec h' with ⟨_, _, _, _, h3⟩ | ⟨b, lo, m, h1, h2⟩
        · exact h3.elim
        rcases onPS_spec h2 with ⟨_, _, _, _, h3⟩ | ⟨b2, lo2, m2, h3, h4⟩
        · exact h3.elim
        obtain ⟨e, h5, h6, rfl, h7, h8, h9⟩ := onSome_spec h4
        obtain ⟨wr, e1, l, h10, rfl, rfl, h11, h12⟩ := onSeq_spec h9
        obtain ⟨wr2, e2, l2, h13, rfl, h14, h15⟩ := onSeq_spec h12
        exact ⟨_, _, .eff rfl fun G o hn hW ho => step_append ho h1 h3 (sl' h5) (sl' h6) h10 h13 h11 h14 (by subst hn; exact h7) h8, h15⟩
      · exact h'.elim
  | _ => exact h.elim
end Ink
