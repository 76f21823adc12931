/- The evaluator's equations, for 'simp only'. No conditions. -/
import Derived.Test.YtdooejjnjfgnjaaInk12
set_option linter.unusedVariables false
set_option linter.unusedSimpArgs false
set_option linter.unusedVariables false
namespace Ink
open Go
section
variable {C : Ctx} {n : Nat} {W : List Nat} {ops : List Oper} {r : List Oper} {E : Env} {H : Heap} {Q : Env → Heap → Prop} {R : AEx → Env → Heap → Prop} {K : AV → Heap → Prop} {F : Tmp → AV}

def mk {α : Sort _} (a : α) : α := a
theorem s_mk {α : Sort _} {a : α} : mk a = a := by
  have h : mk a = a ∧ True := ⟨by unfold mk; rfl, trivial⟩
  exact h.1
def force {α : Type} (a : α) (k : α → Prop) : Prop := k a
theorem s_force {α : Type} {a : α} {k : α → Prop} : force a k = k a := by unfold force; rfl
@[congr] theorem g_force {α : Type} {a a' : α} {k : α → Prop} (h : mk a = a') : force a k = force a' k := by rw [← h]; rfl
def apIf (l : List (Tmp × Tmp)) (E : Env) (p : Prop) : Prop := apAll l E ∧ p
def gIf (b w : Bool) (x y : Prop) : Prop := if b = w then x else y
theorem s_gTT {x y} : gIf true true x y = x := by unfold gIf; simp
theorem s_gTF {x y} : gIf true false x y = y := by unfold gIf; simp
theorem s_gFT {x y} : gIf false true x y = y := by unfold gIf; simp
theorem s_gFF {x y} : gIf false false x y = x := by unfold gIf; simp
@[congr] theorem g_gIf {b b' w : Bool} {x y : Prop} (h : mk b = b') : gIf b w x y = gIf b' w x y := by rw [← h]; rfl
theorem s_nil : aops C n W ops [] E H Q = Q E H := by rw [aops]
theorem s_opS {d op ty pos af} : aops C n W ops (⟨some d, op, ty, pos, af, none⟩ :: r) E H Q = aop C n W (look E) H op fun v H' => aops C n W ops r ((d, v) :: E) H' Q := by rw [aops]; rfl
theorem s_opN {op ty pos af} : aops C n W ops (⟨none, op, ty, pos, af, none⟩ :: r) E H Q = aop C n W (look E) H op fun _ H' => aops C n W ops r E H' Q := by rw [aops]; rfl
theorem s_gdS {d op ty pos af j want} : aops C n W ops (⟨some d, op, ty, pos, af, some (j, want)⟩ :: r) E H Q = onSome (dstOf ops j) fun d' => onG (look E d') (fun b => gsplit b fun b' =>
    gIf b' want (aop C n W (look ((d', .bool b') :: E)) H op fun v H' => aops C n W ops r ((d, v) :: (d', .bool b') :: E) H' Q)
      (aops C n W ops r ((d, .tup []) :: (d', .bool b') :: E) H Q)) (aops C n W ops r ((d, .tup []) :: E) H Q) := by rw [aops]; rfl
theorem s_gdN {op ty pos af j want} : aops C n W ops (⟨none, op, ty, pos, af, some (j, want)⟩ :: r) E H Q = onSome (dstOf ops j) fun d' => onG (look E d') (fun b => gsplit b fun b' =>
    gIf b' want (aop C n W (look ((d', .bool b') :: E)) H op fun _ H' => aops C n W ops r ((d', .bool b') :: E) H' Q)
      (aops C n W ops r ((d', .bool b') :: E) H Q)) (aops C n W ops r E H Q) := by rw [aops]; rfl
theorem s_dst0 {d op ty pos af g} : dstOf (⟨d, op, ty, pos, af, g⟩ :: r) 0 = d := by unfold dstOf; simp
theorem s_dst {o : Oper} {j : Nat} : dstOf (o :: r) (j + 1) = dstOf r j := by unfold dstOf; simp
theorem s_lookeq {t v} : look ((t, v) :: E) t = v := by simp [look]
theorem s_lookne {s t v} (h : ¬ s = t) : look ((s, v) :: E) t = look E t := by simp [look, h]
theorem s_looknil {t} : look [] t = .junk := by unfold look; rfl
theorem s_evtmp {t} : ev F (.tmp t) = F t := by unfold ev; rfl
theorem s_evint {k i} : ev F (.const (.int k i)) = .int k i := by unfold ev; rfl
theorem s_evbool {b} : ev F (.const (.bool b)) = .bool b := by unfold ev; rfl
theorem s_evstr {b} : ev F (.const (.string b)) = .str b := by unfold ev; rfl
theorem s_evnilp : ev F (.const (.pointer none)) = .nilp := by unfold ev; rfl
theorem s_evnils : ev F (.const (.slice none 0 0)) = .nils := by unfold ev; rfl
theorem s_evfunc {f} : ev F (.func f) = .fn f [] [] := by unfold ev; rfl

theorem s_onB {b k} : onB (.bool b) k = k b := by unfold onB; rfl
theorem s_onGb {b k q} : onG (.bool b) k q = k b := by unfold onG; rfl
theorem s_onGt {k q} : onG (.tup []) k q = q := by unfold onG; rfl
theorem s_onI {j i k} : onI (.int j i) k = k j i := by unfold onI; rfl
theorem s_onDint {j i k} : onD (.int j i) k = k (.int j) (.int j i) := by unfold onD; rfl
theorem s_onDbool {b k} : onD (.bool b) k = k .bool (.bool b) := by unfold onD; rfl
theorem s_onDstr {b k} : onD (.str b) k = k .str (.str b) := by unfold onD; rfl
theorem s_onDagg {τ v k} : onD (.agg τ v) k = k τ v := by unfold onD; rfl
theorem s_onAddrp {b p τ k q} : onAddr (.ptr b p τ) k q = k b p τ := by unfold onAddr; rfl
theorem s_onAddrr {b k q} : onAddr (.rptr b) k q = q b := by unfold onAddr; rfl
theorem s_onPSp {b p τ k q} : onPS (.ptr b p τ) k q = k b p τ := by unfold onPS; rfl
theorem s_onPSs {b lo len k q} : onPS (.slc b lo len) k q = q b lo len := by unfold onPS; rfl
theorem s_onASa {τ v k q} : onAS (.agg τ v) k q = k τ v := by unfold onAS; rfl
theorem s_onASs {s k q} : onAS (.str s) k q = q s := by unfold onAS; rfl
theorem s_onTup {l k} : onTup (.tup l) k = k l := by unfold onTup; rfl
theorem s_onFn {f c d k} : onFn (.fn f c d) k = k f c d := by unfold onFn; rfl
theorem s_onSome {α : Type} {a : α} {k} : onSome (some a) k = k a := by unfold onSome; rfl
theorem s_onSeq {wr e l k} : onSeq (some (.seq wr e l)) k = k wr e l := by unfold onSeq; rfl
theorem s_onRef {v k} : onRef (some (.ref v)) k = k v := by unfold onRef; rfl
theorem s_onArr {m e k} : onArr (.arr m e) k = k m e := by unfold onArr; rfl
theorem onK_ty {t k q τ} (h : C.ty t = some τ) : onK C t k q = k τ := by unfold onK; rw [h]
theorem onK_rf {t k q z} (h : C.ty t = none) (h' : C.rf t = some z) : onK C t k q = q z := by unfold onK; rw [h, h']
theorem s_gsplit {b k} : gsplit b k = ((b = true → k true) ∧ (b = false → k false)) := by unfold gsplit; rfl
theorem s_gdec {p : Prop} [Decidable p] {k} : gsplit (decide p) k = ((p → k true) ∧ (¬ p → k false)) := by unfold gsplit; simp only [decide_eq_true_eq, decide_eq_false_iff_not]
theorem s_gnot {b k} : gsplit (!b) k = gsplit b fun t => k (!t) := by
  unfold gsplit; cases b <;> simp
theorem s_gtrue {k} : gsplit true k = k true := by unfold gsplit; simp
theorem s_gfalse {k} : gsplit false k = k false := by unfold gsplit; simp
theorem s_isPtrp {b p τ} : isPtr (.ptr b p τ) = True := by unfold isPtr; rfl
theorem s_isPtrr {b} : isPtr (.rptr b) = True := by unfold isPtr; rfl
theorem s_isPtrf {b c d} : isPtr (.fn b c d) = True := by unfold isPtr; rfl
theorem s_bndn {d k} : onBnd F none d k = k d := by unfold onBnd; rfl
theorem s_bnds {x d k} : onBnd F (some x) d k = onI (ev F x) fun _ a => 0 ≤ a ∧ k a.toNat := by unfold onBnd; rfl
theorem s_filln {τ v k} : fillsP F τ v [] k = k v := by rw [fillsP]
theorem s_fillc {τ v i x ps k} : fillsP F τ v ((i, x) :: ps) k = onD (ev F x) fun s u => τ.fld i = some s ∧ fillsP F τ (v.set [i] u) ps k := by rw [fillsP]
theorem s_fillLn {τ v k} : fillsLP F τ v [] k = k v := by rw [fillsLP]
theorem s_fillLc {e l i x ps k} : fillsLP F e l ((i, x) :: ps) k = onD (ev F x) fun s u => s = e ∧ i < l.length ∧ fillsLP F e (l.set i u) ps k := by rw [fillsLP]

theorem s_move {x} : aop C n W F H (.move x) K = force (ev F x) fun v => K v H := by rw [aop]; rfl
theorem s_assign {x} : aop C n W F H (.assign x) K = force (ev F x) fun v => K v H := by rw [aop]; rfl
theorem s_pick {c x y} : aop C n W F H (.pick c x y) K = onB (ev F c) fun b => gsplit b fun t => gIf t true (force (ev F x) fun v => K v H) (force (ev F y) fun v => K v H) := by
  rw [aop]; unfold gIf force; refine congrArg (onB (ev F c)) (funext fun b => congrArg (gsplit b) (funext fun t => ?_))
  cases t <;> simp
theorem s_alloc {t} : aop C n W F H (.alloc t) K = onK C t (fun τ => force H.length fun m => force (H ++ [.data τ τ.zero]) fun H' => K (.ptr m [] τ) H') (fun z => force H.length fun m => force (H ++ [.ref z]) fun H' => K (.rptr m) H') := by rw [aop]; rfl
theorem s_box {t x} : aop C n W F H (.box t x) K = onK C t (fun _ => onD (ev F x) fun s v => force H.length fun m => force (H ++ [.data s v]) fun H' => K (.ptr m [] s) H') (fun _ => (ev F x).oneB = true ∧ force H.length fun m => force (H ++ [.ref (ev F x)]) fun H' => K (.rptr m) H') := by rw [aop]; rfl
theorem s_build {t ps} : aop C n W F H (.build t (List.toArray ps)) K = onSome (C.ty t) fun τ => τ.agg = true ∧ fillsP F τ τ.zero ps fun v => force v fun v => K (.agg τ v) H := by rw [aop]; rfl
theorem s_buildSl {t m ps} : aop C n W F H (.buildSlice t m (List.toArray ps)) K = onSome (C.sl t) fun e => m ≤ 100 ∧ e.size ≤ 10000 ∧ fillsLP F e (List.replicate m e.zero) ps fun l => force H.length fun k => force (H ++ [.seq true e l]) fun H' => K (.slc k 0 m) H' := by rw [aop]; rfl
theorem s_load {t x} : aop C n W F H (.load t x) K = onAddr (ev F x) (fun b p τ => C.ty t = some τ ∧ onSome H[b]? fun B => onSome (B.get? p) fun v => force (ofD τ v) fun v => K v H) (fun b => (C.rf t).isSome = true ∧ onRef H[b]? fun v => K v H) := by rw [aop]; rfl
theorem s_store {t x y} : aop C n W F H (.store t x y) K = onAddr (ev F x) (fun b p τ => C.ty t = some τ ∧ onD (ev F y) fun s v => s = τ ∧ may n W b ∧ onSome H[b]? fun B => onSome (B.set? p v) fun B' => force (H.set b B') fun H' => K .junk H')
      (fun b => (C.rf t).isSome = true ∧ (ev F y).oneB = true ∧ may n W b ∧ onRef H[b]? fun _ => force (H.set b (.ref (ev F y))) fun H' => K .junk H') := by rw [aop]; rfl
theorem s_nilCheck {x} : aop C n W F H (.nilCheck x) K = (isPtr (ev F x) ∧ force (ev F x) fun v => K v H) := by rw [aop]; rfl
theorem s_bin {op t x y u} : aop C n W F H (.binOp op t x y u) K = abin C op t (ev F x) (ev F y) fun v => force v fun v => K v H := by rw [aop]; rfl
theorem s_not {t x} : aop C n W F H (.unOp .not t x) K = onB (ev F x) fun b => force (AV.bool (!b)) fun v => K v H := by rw [aop]; rfl
theorem s_neg {t x} : aop C n W F H (.unOp .neg t x) K = onI (ev F x) fun k a => force (AV.int k (k.wrap (0 - a))) fun v => K v H := by rw [aop]; rfl
theorem s_convert {s t x} : aop C n W F H (.convert s t x) K = onI (ev F x) fun _ a => onSome (C.ty s) fun σ => onSome (C.ty t) fun τ => onInts σ τ fun k => force (AV.int k (k.wrap a)) fun v => K v H := by rw [aop]; rfl
theorem s_onInts {j k} {q : IntKind → Prop} : onInts (.int j) (.int k) q = q k := by unfold onInts; rfl
theorem s_makeFunc {f a b} : aop C n W F H (.makeFunc (.func f) (List.toArray a) (List.toArray b)) K = force (AV.fn f (a.map (ev F)) (b.map (ev F))) fun v => K v H := by rw [aop]; rfl
theorem s_makeSl {t x y} : aop C n W F H (.makeSlice t x y) K = onSome (C.sl t) fun e => onI (ev F x) fun _ a => onI (ev F y) fun _ b => 0 ≤ a ∧ a ≤ 1048576 ∧ b = a ∧ force H.length fun k => force (H ++ [.seq true e (List.replicate a.toNat e.zero)]) fun H' => K (.slc k 0 a.toNat) H' := by rw [aop]; rfl
theorem s_slice {t x lo hi} : aop C n W F H (.slice t x lo hi none) K = onSome (C.sl t) fun e => onPS (ev F x) (fun _ _ _ => False) fun b off m => onSeq H[b]? fun _ e' _ => e' = e ∧ onBnd F lo 0 fun l => onBnd F hi m fun h => l ≤ h ∧ h ≤ m ∧ force (AV.slc b (off + l) (h - l)) fun v => K v H := by rw [aop]; rfl
theorem s_fieldAddr {t x f} : aop C n W F H (.fieldAddr t x f) K = onAddr (ev F x) (fun b p τ => C.ty t = some τ ∧ onSome (τ.fldS f) fun s => force (AV.ptr b (p ++ [f]) s) fun v => K v H) (fun _ => False) := by rw [aop]; rfl
theorem s_field {t x f} : aop C n W F H (.field t x f) K = onAS (ev F x) (fun τ v => C.ty t = some τ ∧ onSome (τ.fldS f) fun s => force (ofD s (v.get [f])) fun v => K v H) (fun _ => False) := by rw [aop]; rfl
theorem s_indexAddr {t x y} : aop C n W F H (.indexAddr t x y) K = onPS (ev F x) (fun b p τ => onArr τ fun m e => C.ty t = some (.arr m e) ∧ onI (ev F y) fun _ i => 0 ≤ i ∧ i < (m : Int) ∧ force (AV.ptr b (p ++ [i.toNat]) e) fun v => K v H)
      (fun b lo len => onSome (C.sl t) fun e => onSeq H[b]? fun _ e' _ => e' = e ∧ onI (ev F y) fun _ i => 0 ≤ i ∧ i < (len : Int) ∧ force (AV.ptr b [lo + i.toNat] e) fun v => K v H) := by rw [aop]; rfl
theorem s_index {t x y} : aop C n W F H (.index t x y) K = onAS (ev F x) (fun τ v => onArr τ fun m e => C.ty t = some (.arr m e) ∧ onI (ev F y) fun _ i => 0 ≤ i ∧ i < (m : Int) ∧ force (ofD e (v.get [i.toNat])) fun v => K v H)
      (fun s => C.ty t = some .str ∧ onI (ev F y) fun _ i => 0 ≤ i ∧ onSome s[i.toNat]? fun c => K (.int .u8 c.toNat) H) := by rw [aop]; rfl
theorem s_extract {x i} : aop C n W F H (.extract x i) K = onTup (ev F x) fun l => onSome l[i]? fun v => force v fun v => K v H := by rw [aop]; rfl
theorem s_call {f a ts} : aop C n W F H (.call ⟨.value (.func f), List.toArray a, ts⟩) K = gIf (C.quiet f) true (qcall C.P f (a.map (ev F)) H fun v => K v H) (acall C.P n W f (a.map (ev F)) H K) := by rw [aop]; rfl
theorem s_callfn {t a ts} : aop C n W F H (.call ⟨.value (.tmp t), List.toArray a, ts⟩) K = onFn (F t) fun f c d => acall C.P n W f (c ++ a.map (ev F) ++ d) H K := by rw [aop]
theorem s_builtin {b a ts} : aop C n W F H (.call ⟨.builtin b, List.toArray a, List.toArray ts⟩) K = abuiltin C n F H b a ts K := by rw [aop]
theorem s_len {x t} : abuiltin C n F H .len [x] [t] K = onLen C t (ev F x) fun m => force (AV.int .i64 m) fun v => K v H := by rw [abuiltin]; rfl
theorem s_lenS {t b lo m k} : onLen C t (.slc b lo m) k = ((C.sl t).isSome = true ∧ k m) := by unfold onLen; rfl
theorem s_lenN {t k} : onLen C t .nils k = ((C.sl t).isSome = true ∧ k 0) := by unfold onLen; rfl
theorem s_lenStr {t s k} : onLen C t (.str s) k = (C.ty t = some .str ∧ k s.size) := by unfold onLen; rfl
theorem s_lenA {t m e v k} : onLen C t (.agg (.arr m e) v) k = (C.ty t = some (.arr m e) ∧ k m) := by unfold onLen; rfl
theorem s_max2 {x y ts} : abuiltin C n F H .max [x, y] ts K = onI (ev F x) fun k a => onI (ev F y) fun _ b => K (.int k (mm true a b)) H := by rw [abuiltin]
theorem s_min2 {x y ts} : abuiltin C n F H .min [x, y] ts K = onI (ev F x) fun k a => onI (ev F y) fun _ b => K (.int k (mm false a b)) H := by rw [abuiltin]
theorem s_max3 {x y z ts} : abuiltin C n F H .max [x, y, z] ts K = onI (ev F x) fun k a => onI (ev F y) fun _ b => onI (ev F z) fun _ c => K (.int k (mm true (mm true a b) c)) H := by rw [abuiltin]
theorem s_append {x y t t'} : abuiltin C n F H .append [x, y] [t, t'] K = onPS (ev F x) (fun _ _ _ => False) fun b lo m => onPS (ev F y) (fun _ _ _ => False) fun b2 lo2 m2 =>
      onSome (C.sl t) fun e => C.sl t' = some e ∧ lo = 0 ∧ n ≤ b ∧ m + m2 ≤ 1000000 ∧ onSeq H[b]? fun wr e1 l => wr = true ∧ e1 = e ∧ m ≤ l.length ∧ onSeq H[b2]? fun _ e2 l2 => e2 = e ∧ lo2 + m2 ≤ l2.length ∧
        force H.length fun k => force (H.set b (.dead (.seq e)) ++ [.seq true e (l.take m ++ (l2.drop lo2).take m2)]) fun H' => force (m + m2) fun m' => K (.slc k 0 m') H' := by rw [abuiltin]; rfl

theorem s_binI {op t k a k' b} {L : AV → Prop} : abin C op t (.int k a) (.int k' b) L = gIf (BinOp.isSh op) true (0 ≤ b ∧ L (iSh op k a b)) (k = k' ∧ gIf (BinOp.isDiv op) true (b ≠ 0 ∧ L (iBin op k a b)) (L (iBin op k a b))) := by unfold abin; rfl
theorem s_binBe {t a b} {L : AV → Prop} : abin C .eql t (.bool a) (.bool b) L = (C.ty t = some .bool ∧ L (.bool (a == b))) := by unfold abin; simp
theorem s_binBn {t a b} {L : AV → Prop} : abin C .neq t (.bool a) (.bool b) L = (C.ty t = some .bool ∧ L (.bool (a != b))) := by unfold abin; simp
theorem s_binAe {t m k a τ b} {L : AV → Prop} : abin C .eql t (.agg (.arr m (.int k)) a) (.agg τ b) L = (τ = .arr m (.int k) ∧ C.ty t = some (.arr m (.int k)) ∧ C.eq t = true ∧ L (.bool (eqD (.arr m (.int k)) a b))) := by unfold abin; simp
theorem s_binAn {t m k a τ b} {L : AV → Prop} : abin C .neq t (.agg (.arr m (.int k)) a) (.agg τ b) L = (τ = .arr m (.int k) ∧ C.ty t = some (.arr m (.int k)) ∧ C.eq t = true ∧ L (.bool (!eqD (.arr m (.int k)) a b))) := by unfold abin; simp
theorem s_shShl : BinOp.isSh .shl = true := rfl
theorem s_shShr : BinOp.isSh .shr = true := rfl
theorem s_shAdd : BinOp.isSh .add = false := rfl
theorem s_shSub : BinOp.isSh .sub = false := rfl
theorem s_shMul : BinOp.isSh .mul = false := rfl
theorem s_shQuo : BinOp.isSh .quo = false := rfl
theorem s_shRem : BinOp.isSh .rem = false := rfl
theorem s_shAnd : BinOp.isSh .and = false := rfl
theorem s_shOr : BinOp.isSh .or = false := rfl
theorem s_shAndNot : BinOp.isSh .andNot = false := rfl
theorem s_shEql : BinOp.isSh .eql = false := rfl
theorem s_shNeq : BinOp.isSh .neq = false := rfl
theorem s_shLss : BinOp.isSh .lss = false := rfl
theorem s_shLeq : BinOp.isSh .leq = false := rfl
theorem s_shGtr : BinOp.isSh .gtr = false := rfl
theorem s_shGeq : BinOp.isSh .geq = false := rfl
theorem s_dvAdd : BinOp.isDiv .add = false := rfl
theorem s_dvSub : BinOp.isDiv .sub = false := rfl
theorem s_dvMul : BinOp.isDiv .mul = false := rfl
theorem s_dvQuo : BinOp.isDiv .quo = true := rfl
theorem s_dvRem : BinOp.isDiv .rem = true := rfl
theorem s_dvAnd : BinOp.isDiv .and = false := rfl
theorem s_dvOr : BinOp.isDiv .or = false := rfl
theorem s_dvAndNot : BinOp.isDiv .andNot = false := rfl
theorem s_dvEql : BinOp.isDiv .eql = false := rfl
theorem s_dvNeq : BinOp.isDiv .neq = false := rfl
theorem s_dvLss : BinOp.isDiv .lss = false := rfl
theorem s_dvLeq : BinOp.isDiv .leq = false := rfl
theorem s_dvGtr : BinOp.isDiv .gtr = false := rfl
theorem s_dvGeq : BinOp.isDiv .geq = false := rfl
theorem s_iAdd {k x y} : iBin .add k x y = .int k (k.wrap (x + y)) := by unfold iBin; rfl
theorem s_iSub {k x y} : iBin .sub k x y = .int k (k.wrap (x - y)) := by unfold iBin; rfl
theorem s_iMul {k x y} : iBin .mul k x y = .int k (k.wrap (x * y)) := by unfold iBin; rfl
theorem s_iQuo {k x y} : iBin .quo k x y = .int k (k.wrap (x.tdiv y)) := by unfold iBin; rfl
theorem s_iRem {k x y} : iBin .rem k x y = .int k (x.tmod y) := by unfold iBin; rfl
theorem s_iAnd {k x y} : iBin .and k x y = .int k (k.wrap (BitVec.ofInt k.bits x &&& BitVec.ofInt k.bits y).toNat) := by unfold iBin; rfl
theorem s_iOr {k x y} : iBin .or k x y = .int k (k.wrap (BitVec.ofInt k.bits x ||| BitVec.ofInt k.bits y).toNat) := by unfold iBin; rfl
theorem s_iAndNot {k x y} : iBin .andNot k x y = .int k (k.wrap (BitVec.ofInt k.bits x &&& ~~~ BitVec.ofInt k.bits y).toNat) := by unfold iBin; rfl
theorem s_iEql {k x y} : iBin .eql k x y = .bool (decide (x = y)) := by unfold iBin; rfl
theorem s_iNeq {k x y} : iBin .neq k x y = .bool (!decide (x = y)) := by unfold iBin; rfl
theorem s_iLss {k x y} : iBin .lss k x y = .bool (decide (x < y)) := by unfold iBin; rfl
theorem s_iLeq {k x y} : iBin .leq k x y = .bool (decide (x ≤ y)) := by unfold iBin; rfl
theorem s_iGtr {k x y} : iBin .gtr k x y = .bool (decide (y < x)) := by unfold iBin; rfl
theorem s_iGeq {k x y} : iBin .geq k x y = .bool (decide (y ≤ x)) := by unfold iBin; rfl
theorem s_iShl {k x y} : iSh .shl k x y = .int k (k.wrap (x * 2 ^ (min y.toNat k.bits))) := by unfold iSh; rfl
theorem s_iShr {k x y} : iSh .shr k x y = .int k (x.fdiv (2 ^ (min y.toNat k.bits))) := by unfold iSh; rfl

theorem s_regionF {i} {l : List Oper} : acode C n W (.region i (List.toArray l) false) E H R = aops C n W l l E H (R .normal) := by rw [acode]; simp
theorem s_regionT {i d op ty pos af g} {l : List Oper} : acode C n W (.region i (List.toArray (⟨d, op, ty, pos, af, g⟩ :: l)) true) E H R = aops C n W (⟨d, op, ty, pos, af, g⟩ :: l) (⟨d, op, ty, pos, af, g⟩ :: l) E H (fun E H => apIf (C.ap i d) E (R .normal E H)) := by rw [acode]; simp [headD, apIf]
theorem s_apn {p : Prop} : apIf [] E p = p := by unfold apIf apAll; simp
theorem s_apc {x y l} {p : Prop} : apIf ((x, y) :: l) E p = (apB (look E x) (look E y) ∧ apIf l E p) := by unfold apIf; rw [apAll, and_assoc]
theorem s_apB {b q τ b' q' τ'} : apB (.ptr b q τ) (.ptr b' q' τ') = ¬ (b = b') := by
  unfold apB blkOf; simp
theorem s_seq {a b} : acode C n W (.seq a b) E H R = acode C n W a E H (thenQ (fun E H => acode C n W b E H R) R) := by rw [acode]
theorem s_skip : acode C n W .skip E H R = R .normal E H := by rw [acode]
theorem s_ret : acode C n W .ret E H R = R .ret E H := by rw [acode]
theorem s_exit {m} : acode C n W (.exit m) E H R = R (.exit m) E H := by rw [acode]
theorem s_cond {c a b} : acode C n W (.cond c a b) E H R = onB (ev (look E) c) fun t => gsplit t fun t' => gIf t' true (acode C n W a E H R) (acode C n W b E H R) := by rw [acode]; rfl
theorem s_block {i c} : acode C n W (.block i c) E H R = acode C n W c E H (blockQ i R) := by rw [acode]
theorem s_thenN {k : Env → Heap → Prop} : thenQ k R .normal E H = k E H := by unfold thenQ; rfl
theorem s_thenR {k : Env → Heap → Prop} : thenQ k R .ret E H = R .ret E H := by unfold thenQ; rfl
theorem s_thenE {k : Env → Heap → Prop} {m} : thenQ k R (.exit m) E H = R (.exit m) E H := by unfold thenQ; rfl
theorem s_blockN {i} : blockQ i R .normal E H = R .normal E H := by unfold blockQ; rfl
theorem s_blockR {i} : blockQ i R .ret E H = R .ret E H := by unfold blockQ; rfl
theorem s_blockE {i} : blockQ i R (.exit i) E H = R .normal E H := by unfold blockQ; simp
theorem s_blockO {i m} (h : ¬ m = i) : blockQ i R (.exit m) E H = R (.exit m) E H := by unfold blockQ; simp [h]
theorem s_finN {rs m v H'} : finQ C rs m v H' .normal E H = ares C E H rs fun l => fin m (one l) H v H' := by unfold finQ; rfl
theorem s_finR {rs m v H'} : finQ C rs m v H' .ret E H = ares C E H rs fun l => fin m (one l) H v H' := by unfold finQ; rfl
theorem s_resn {k : List AV → Prop} : ares C E H [] k = k [] := by rw [ares]
theorem s_rest {t rs} {k : List AV → Prop} : ares C E H (.tmp t :: rs) k = ares C E H rs fun l => force (look E t) fun v => k (v :: l) := by rw [ares]; rfl
theorem s_resc {x t rs} {k : List AV → Prop} : ares C E H (.cell x t :: rs) k = onAddr (look E x) (fun b p τ => C.ty t = some τ ∧ onSome H[b]? fun B => onSome (B.get? p) fun v => force (ofD τ v) fun v => ares C E H rs fun l => k (v :: l))
      (fun b => (C.rf t).isSome = true ∧ onRef H[b]? fun v => ares C E H rs fun l => k (v :: l)) := by rw [ares]; rfl
theorem s_one1 {v} : one [v] = v := by unfold one; rfl
theorem s_one2 {a b l} : one (a :: b :: l) = .tup (a :: b :: l) := by unfold one; rfl
theorem s_one0 : one [] = .tup [] := by unfold one; rfl
theorem s_argn {k} : argE [] k = [] := by rw [argE]
theorem s_argc {v l k} : argE (v :: l) k = (k, v) :: argE l (k + 1) := by rw [argE]

theorem s_ofDi {j k i} : ofD (.int j) (.int k i) = .int k i := by unfold ofD; rfl
theorem s_ofDb {b} : ofD .bool (.bool b) = .bool b := by unfold ofD; rfl
theorem s_ofDs {b} : ofD .str (.str b) = .str b := by unfold ofD; rfl
theorem s_ofDa {m e v} : ofD (.arr m e) v = .agg (.arr m e) v := by unfold ofD; rfl
theorem s_ofDc {a b v} : ofD (.cons a b) v = .agg (.cons a b) v := by unfold ofD; rfl
theorem s_getD {τ v p} : Blk.get? (.data τ v) p = some (v.get p) := by unfold Blk.get?; rfl
theorem s_getS {wr e l i p} : Blk.get? (.seq wr e l) (i :: p) = (l[i]?).map fun y => y.get p := by unfold Blk.get?; rfl
theorem s_setD {τ v p x} : Blk.set? (.data τ v) p x = some (.data τ (v.set p x)) := by unfold Blk.set?; rfl
theorem s_setS {e l i p x} : Blk.set? (.seq true e l) (i :: p) x = (l[i]?).map fun y => .seq true e (l.set i (y.set p x)) := by unfold Blk.set?; rfl
theorem s_dvn {v : DV} : v.get [] = v := by cases v <;> rw [DV.get]
theorem s_dva {f i p} : (DV.arr f).get (i :: p) = (f i).get p := by rw [DV.get]
theorem s_dvc0 {a b p} : (DV.cons a b).get (0 :: p) = a.get p := by rw [DV.get]
theorem s_dvc {a b i p} : (DV.cons a b).get ((i + 1) :: p) = b.get (i :: p) := by rw [DV.get]
theorem s_dsn {v x : DV} : v.set [] x = x := by cases v <;> rw [DV.set]
theorem s_dsa {f i p x} : (DV.arr f).set (i :: p) x = .arr fun j => if j = i then (f i).set p x else f j := by rw [DV.set]
theorem s_dsc0 {a b p x} : (DV.cons a b).set (0 :: p) x = .cons (a.set p x) b := by rw [DV.set]
theorem s_dsc {a b i p x} : (DV.cons a b).set ((i + 1) :: p) x = .cons a (b.set (i :: p) x) := by rw [DV.set]
theorem s_flda {m e i} : (Sh.arr m e).fldS i = none := by unfold Sh.fldS; rfl
theorem s_zInt {k} : (Sh.int k).zero = .int k 0 := rfl
theorem s_mayNew {b : Nat} (h : n ≤ b) : may n W b = True := by unfold may; simp [h]
theorem s_oneI {k i} : (AV.int k i).oneB = true := rfl
theorem s_oneP {b p τ} : (AV.ptr b p τ).oneB = true := rfl
theorem s_oneR {b} : (AV.rptr b).oneB = true := rfl
theorem s_oneF {f c d} : (AV.fn f c d).oneB = true := rfl
theorem s_oneS {b l m} : (AV.slc b l m).oneB = true := rfl
theorem s_oneN : AV.nils.oneB = true := rfl
end

/-! ### What 'simp' is to leave alone till it is its turn -/
section
variable {C : Ctx} {n : Nat} {W : List Nat}
@[congr] theorem g_onB {a a' : AV} {k} (h : mk a = a') : onB a k = onB a' k := by rw [← h]; rfl
@[congr] theorem g_onG {a a' : AV} {k q} (h : mk a = a') : onG a k q = onG a' k q := by rw [← h]; rfl
@[congr] theorem g_onI {a a' : AV} {k} (h : mk a = a') : onI a k = onI a' k := by rw [← h]; rfl
@[congr] theorem g_onD {a a' : AV} {k} (h : mk a = a') : onD a k = onD a' k := by rw [← h]; rfl
@[congr] theorem g_onAddr {a a' : AV} {k q} (h : mk a = a') : onAddr a k q = onAddr a' k q := by rw [← h]; rfl
@[congr] theorem g_onPS {a a' : AV} {k q} (h : mk a = a') : onPS a k q = onPS a' k q := by rw [← h]; rfl
@[congr] theorem g_onAS {a a' : AV} {k q} (h : mk a = a') : onAS a k q = onAS a' k q := by rw [← h]; rfl
@[congr] theorem g_onTup {a a' : AV} {k} (h : mk a = a') : onTup a k = onTup a' k := by rw [← h]; rfl
@[congr] theorem g_onFn {a a' : AV} {k} (h : mk a = a') : onFn a k = onFn a' k := by rw [← h]; rfl
@[congr] theorem g_onSome {α : Type} {a a' : Option α} {k} (h : mk a = a') : onSome a k = onSome a' k := by rw [← h]; rfl
@[congr] theorem g_onSeq {a a' : Option Blk} {k} (h : mk a = a') : onSeq a k = onSeq a' k := by rw [← h]; rfl
@[congr] theorem g_onRef {a a' : Option Blk} {k} (h : mk a = a') : onRef a k = onRef a' k := by rw [← h]; rfl
@[congr] theorem g_onArr {a a' : Sh} {k} (h : mk a = a') : onArr a k = onArr a' k := by rw [← h]; rfl
@[congr] theorem g_onInts {a a' b b' : Sh} {k} (h : mk a = a') (h' : mk b = b') : onInts a b k = onInts a' b' k := by rw [← h, ← h']; rfl
@[congr] theorem g_onK {t : TypeId} {k q} {u : Nat} (h : mk 0 = u) : onK C t k q = onK C t k q := rfl
@[congr] theorem g_onLen {t : TypeId} {a a' : AV} {k} (h : mk a = a') : onLen C t a k = onLen C t a' k := by rw [← h]; rfl
@[congr] theorem g_gsplit {a a' : Bool} {k} (h : mk a = a') : gsplit a k = gsplit a' k := by rw [← h]; rfl
@[congr] theorem g_acall {P : Program} {f : FuncId} {a a' : List AV} {H H' : Heap} {K} (h : mk a = a') (h' : mk H = H') : acall P n W f a H K = acall P n W f a' H' K := by rw [← h, ← h']; rfl
@[congr] theorem g_apIf {l l' : List (Tmp × Tmp)} {E : Env} {p : Prop} (h : mk l = l') : apIf l E p = apIf l' E p := by rw [← h]; rfl
@[congr] theorem g_apB {a a' b b' : AV} (h : mk a = a') (h' : mk b = b') : apB a b = apB a' b' := by rw [← h, ← h']; rfl
@[congr] theorem g_qcall {P : Program} {f : FuncId} {a a' : List AV} {H H' : Heap} {K} (h : mk a = a') (h' : mk H = H') : qcall P f a H K = qcall P f a' H' K := by rw [← h, ← h']; rfl
@[congr] theorem g_abin {op : BinOp} {t : TypeId} {a a' b b' : AV} {k} (h : mk a = a') (h' : mk b = b') : abin C op t a b k = abin C op t a' b' k := by rw [← h, ← h']; rfl
@[congr] theorem g_abuiltin {F : Tmp → AV} {H : Heap} {b : Builtin} {a : List Operand} {t : List TypeId} {K} {u : Nat} (h : mk 0 = u) : abuiltin C n F H b a t K = abuiltin C n F H b a t K := rfl
@[congr] theorem g_aop {F : Tmp → AV} {H : Heap} {o : Op} {K} {u : Nat} (h : mk 0 = u) : aop C n W F H o K = aop C n W F H o K := rfl
@[congr] theorem g_aops {ops r : List Oper} {E : Env} {H : Heap} {Q} {u : Nat} (h : mk 0 = u) : aops C n W ops r E H Q = aops C n W ops r E H Q := rfl
@[congr] theorem g_acode {c : Code} {E : Env} {H : Heap} {Q} {u : Nat} (h : mk 0 = u) : acode C n W c E H Q = acode C n W c E H Q := rfl
@[congr] theorem g_thenQ {k : Env → Heap → Prop} {R : AEx → Env → Heap → Prop} {x x' : AEx} {E : Env} {H : Heap} (h : mk x = x') : thenQ k R x E H = thenQ k R x' E H := by rw [← h]; rfl
@[congr] theorem g_blockQ {i : Nat} {R : AEx → Env → Heap → Prop} {x x' : AEx} {E : Env} {H : Heap} (h : mk x = x') : blockQ i R x E H = blockQ i R x' E H := by rw [← h]; rfl
@[congr] theorem g_finQ {rs : List ResultVar} {v : AV} {H' : Heap} {x x' : AEx} {E : Env} {H : Heap} (h : mk x = x') : finQ C rs n v H' x E H = finQ C rs n v H' x' E H := by rw [← h]; rfl
@[congr] theorem g_ares {E : Env} {H : Heap} {rs rs' : List ResultVar} {k} (h : mk rs = rs') : ares C E H rs k = ares C E H rs' k := by rw [← h]; rfl
@[congr] theorem g_dstOf {ops : List Oper} {j : Nat} {u : Nat} (h : mk 0 = u) : dstOf ops j = dstOf ops j := rfl
@[congr] theorem g_ev {F : Tmp → AV} {x x' : Operand} (h : mk x = x') : ev F x = ev F x' := by rw [← h]; rfl
@[congr] theorem g_look {E : Env} {t : Nat} {u : Nat} (h : mk 0 = u) : look E t = look E t := rfl
@[congr] theorem g_fills {F : Tmp → AV} {τ : Sh} {v v' : DV} {ps : List (Nat × Operand)} {k} (h : mk v = v') : fillsP F τ v ps k = fillsP F τ v' ps k := by rw [← h]; rfl
@[congr] theorem g_fillsL {F : Tmp → AV} {τ : Sh} {v v' : List DV} {ps : List (Nat × Operand)} {k} (h : mk v = v') : fillsLP F τ v ps k = fillsLP F τ v' ps k := by rw [← h]; rfl
@[congr] theorem g_bnd {F : Tmp → AV} {x : Option Operand} {d d' : Nat} {k} (h : mk d = d') : onBnd F x d k = onBnd F x d' k := by rw [← h]; rfl
end

/-- A function's contract by its body: the arguments' environment first. -/
theorem acall_of_code {C : Ctx} (hC : C.Ok) {f : FuncId} {fn : Func} {c : Code} {W : List Nat} {args : List AV} {H H' : Heap} {v : AV} (hf : C.P.funcs[f]? = some fn) (hb : fn.body = some c)
    (hname : (fn.name == "runtime.NumGoroutine") = false) {rs : List ResultVar} (hrs : fn.results.toList = rs) (hok : codeOk C fn.ntmps c = true) (hargs : args.length ≤ fn.ntmps)
    (h : force H fun H => force H.length fun n => force (argE args 0) fun E => acode C n W c E H (finQ C rs n v H')) : ACall C.P W f args H v H' :=
  acall_of_body hC hf hb hname hrs hok hargs h

/-! ### Ends of functions -/
theorem headW_nil {n : Nat} : headW n [] := fun i x h => by simp at h
theorem headW_data {A : Heap} {n : Nat} (h : ∀ B ∈ A, ∀ x, B ≠ .ref x) : headW n A := fun i x hi => absurd rfl (h _ (List.mem_of_getElem? hi) x)

/-- Nothing of the call's own is left. -/
theorem fin_drop {A L : Heap} {v : AV} (hh : headW A.length A) (hv : inScope A.length v) (hr : ren (sg A.length []) v = v) : fin A.length v (A ++ L) v A :=
  ⟨sg A.length [], ⟨A, L, [], [], rfl, rfl, by simp, List.nodup_nil, hh, rfl, trivial⟩, hv, hr.symm⟩
end Ink
