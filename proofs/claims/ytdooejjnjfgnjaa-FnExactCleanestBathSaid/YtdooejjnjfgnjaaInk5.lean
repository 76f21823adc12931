/- Arithmetic, conversions, indexing, parts, slices and append: what each does to the abstract state. No conditions. -/
import Derived.Test.YtdooejjnjfgnjaaInk4
import Derived.Laws.AppendOwn
import Derived.Laws.StructEq
set_option linter.unusedVariables false
set_option linter.unusedSimpArgs false
namespace Ink
open Go

def iBin (op : BinOp) (k : IntKind) (x y : Int) : AV :=
  match op with
  | .add => .int k (k.wrap (x + y))
  | .sub => .int k (k.wrap (x - y))
  | .mul => .int k (k.wrap (x * y))
  | .quo => .int k (k.wrap (x.tdiv y))
  | .rem => .int k (x.tmod y)
  | .and => .int k (k.wrap (BitVec.ofInt k.bits x &&& BitVec.ofInt k.bits y).toNat)
  | .or => .int k (k.wrap (BitVec.ofInt k.bits x ||| BitVec.ofInt k.bits y).toNat)
  | .xor => .int k (k.wrap (BitVec.ofInt k.bits x ^^^ BitVec.ofInt k.bits y).toNat)
  | .andNot => .int k (k.wrap (BitVec.ofInt k.bits x &&& ~~~ BitVec.ofInt k.bits y).toNat)
  | .eql => .bool (decide (x = y))
  | .neq => .bool (!decide (x = y))
  | .lss => .bool (decide (x < y))
  | .leq => .bool (decide (x ≤ y))
  | .gtr => .bool (decide (y < x))
  | .geq => .bool (decide (y ≤ x))
  | _ => .junk

def BinOp.isDiv : BinOp → Bool
  | .quo | .rem => true
  | _ => false
def BinOp.isSh : BinOp → Bool
  | .shl | .shr => true
  | _ => false

theorem run_bin {P : Program} {w : World} {op : BinOp} {t : TypeId} {k : IntKind} {x y : Int} (hs : BinOp.isSh op = false) (hd : BinOp.isDiv op = true → y ≠ 0) :
    ∃ v, (binOp op t (.int k x) (.int k y)).run P w = .ok v w ∧ ∀ ρ S w', Rv ρ S w' (iBin op k x y) v := by
  cases op <;> first | (cases hs; done) | skip
  all_goals simp only [binOp, ne_eq, not_true_eq_false, if_false, Op.intArith, Op.intDiv, Op.intBits, Op.intCmp]
  case quo => rw [if_neg (hd rfl)]; exact ⟨_, rfl, fun _ _ _ => rfl⟩
  case rem => rw [if_neg (hd rfl)]; exact ⟨_, rfl, fun _ _ _ => rfl⟩
  all_goals exact ⟨_, rfl, fun _ _ _ => rfl⟩

section ops
variable {P : Program} {G : Ent} {o : Oper} {look : Tmp → AV} {H : Heap}

theorem run_eqGuard_int (P : Program) (w : World) (op : BinOp) (t : TypeId) (x y : Operand) (k k' : IntKind) (a b : Int) : (eqGuard op t x y (.int k a) (.int k' b)).run P w = .ok () w := by
  unfold eqGuard
  split <;> rfl

theorem step_bin {op : BinOp} {t u : TypeId} {x y : Operand} {k : IntKind} {a b : Int} (ho : o.op = .binOp op t x y u) (hx : ev look x = .int k a) (hy : ev look y = .int k b)
    (hs : BinOp.isSh op = false) (hd : BinOp.isDiv op = true → b ≠ 0) : OpStep P G o look H (iBin op k a b) H :=
  OpStep.value fun ρ A w hi he => by
    have hrx := he.ev (x := x) (by simp [ho, Op.operands])
    have hry := he.ev (x := y) (by simp [ho, Op.operands])
    rw [hx] at hrx; rw [hy] at hry
    simp only [Rv] at hrx hry
    obtain ⟨v, h1, h2⟩ := run_bin (P := P) (w := w) (t := t) (k := k) (x := a) (y := b) hs hd
    refine ⟨v, ?_, h2 _ _ _⟩
    rw [execOp.eq_1]
    simp only [ho, hrx, hry, Sem.run_bind, run_eqGuard_int, Result.andThen_ok, h1]
    rfl

def iSh (op : BinOp) (k : IntKind) (x y : Int) : AV :=
  match op with
  | .shl => .int k (k.wrap (x * 2 ^ (min y.toNat k.bits)))
  | .shr => .int k (x.fdiv (2 ^ (min y.toNat k.bits)))
  | _ => .junk

theorem step_shift {op : BinOp} {t u : TypeId} {x y : Operand} {k k' : IntKind} {a b : Int} (ho : o.op = .binOp op t x y u) (hx : ev look x = .int k a) (hy : ev look y = .int k' b)
    (hs : BinOp.isSh op = true) (hd : 0 ≤ b) : OpStep P G o look H (iSh op k a b) H :=
  OpStep.value fun ρ A w hi he => by
    have hrx := he.ev (x := x) (by simp [ho, Op.operands])
    have hry := he.ev (x := y) (by simp [ho, Op.operands])
    rw [hx] at hrx; rw [hy] at hry
    simp only [Rv] at hrx hry
    have hb : ¬ b < 0 := by omega
    cases op <;> first | (cases hs; done) | skip
    · refine ⟨.int k (k.wrap (a * 2 ^ (min b.toNat k.bits))), ?_, rfl⟩
      rw [execOp.eq_1]
      simp only [ho, hrx, hry, Sem.run_bind, run_eqGuard_int, Result.andThen_ok, binOp, Op.shift, hb, if_false]
      rfl
    · refine ⟨.int k (a.fdiv (2 ^ (min b.toNat k.bits))), ?_, rfl⟩
      rw [execOp.eq_1]
      simp only [ho, hrx, hry, Sem.run_bind, run_eqGuard_int, Result.andThen_ok, binOp, Op.shift, hb, if_false]
      rfl

theorem step_boolcmp {op : BinOp} {t u : TypeId} {x y : Operand} {a b : Bool} (ho : o.op = .binOp op t x y u) (hx : ev look x = .bool a) (hy : ev look y = .bool b) (ht : TyOk P .bool t)
    (hop : op = .eql ∨ op = .neq) : OpStep P G o look H (.bool (if op = .eql then a == b else a != b)) H :=
  OpStep.value fun ρ A w hi he => by
    have hrx := he.ev (x := x) (by simp [ho, Op.operands])
    have hry := he.ev (x := y) (by simp [ho, Op.operands])
    rw [hx] at hrx; rw [hy] at hry
    simp only [Rv] at hrx hry
    simp only [TyOk] at ht
    rcases hop with rfl | rfl
    · refine ⟨.bool (a == b), ?_, rfl⟩
      rw [execOp.eq_1]
      have hg : (eqGuard .eql t x y (.bool a) (.bool b)).run P w = .ok () w := rfl
      have hq : (Op.equal t (.bool a) (.bool b)).run P w = .ok (a == b) w := run_equalIn_bool' w 9999 t a b ht.1
      simp only [ho, hrx, hry, Sem.run_bind, hg, Result.andThen_ok, binOp, hq]
      rfl
    · refine ⟨.bool (a != b), ?_, rfl⟩
      rw [execOp.eq_1]
      have hg : (eqGuard .neq t x y (.bool a) (.bool b)).run P w = .ok () w := rfl
      have hq : (Op.equal t (.bool a) (.bool b)).run P w = .ok (a == b) w := run_equalIn_bool' w 9999 t a b ht.1
      simp only [ho, hrx, hry, Sem.run_bind, hg, Result.andThen_ok, binOp, hq]
      rfl

theorem step_not {t : TypeId} {x : Operand} {a : Bool} (ho : o.op = .unOp .not t x) (hx : ev look x = .bool a) : OpStep P G o look H (.bool (!a)) H :=
  OpStep.value fun ρ A w hi he => by
    have hrx := he.ev (x := x) (by simp [ho, Op.operands])
    rw [hx] at hrx
    simp only [Rv] at hrx
    refine ⟨.bool (!a), ?_, rfl⟩
    rw [execOp.eq_1]
    simp only [ho, hrx]
    rfl

theorem step_neg {t : TypeId} {x : Operand} {k : IntKind} {a : Int} (ho : o.op = .unOp .neg t x) (hx : ev look x = .int k a) : OpStep P G o look H (.int k (k.wrap (0 - a))) H :=
  OpStep.value fun ρ A w hi he => by
    have hrx := he.ev (x := x) (by simp [ho, Op.operands])
    rw [hx] at hrx
    simp only [Rv] at hrx
    refine ⟨.int k (k.wrap (0 - a)), ?_, rfl⟩
    rw [execOp.eq_1]
    simp only [ho, hrx]
    rfl

theorem step_convert {s t : TypeId} {x : Operand} {k ks j : IntKind} {a : Int} (ho : o.op = .convert s t x) (hx : ev look x = .int j a) (hs : TyOk P (.int ks) s) (ht : TyOk P (.int k) t) :
    OpStep P G o look H (.int k (k.wrap a)) H :=
  OpStep.value fun ρ A w hi he => by
    have hrx := he.ev (x := x) (by simp [ho, Op.operands])
    rw [hx] at hrx
    simp only [Rv] at hrx
    simp only [TyOk] at hs ht
    refine ⟨.int k (k.wrap a), ?_, rfl⟩
    rw [execOp.eq_1]
    simp only [ho, hrx, convert, Sem.run_bind, run_underlying hs.1, run_underlying ht.1, Result.andThen_ok]
    rfl

theorem Rvs_map {ρ S w} {a : Act} : ∀ {l : List Operand}, (∀ x ∈ l, Rv ρ S w (ev look x) (a.eval x)) → Rvs ρ S w (l.map (ev look)) (l.map a.eval)
  | [], _ => trivial
  | x :: l, h => ⟨h x (by simp), Rvs_map fun y hy => h y (by simp [hy])⟩

theorem step_makeFunc {f : FuncId} {first capt : Array Operand} (ho : o.op = .makeFunc (.func f) first capt) :
    OpStep P G o look H (.fn f (first.toList.map (ev look)) (capt.toList.map (ev look))) H :=
  OpStep.value fun ρ A w hi he => by
    refine ⟨.func (.func f) (first.map A.eval) (capt.map A.eval), ?_, first.toList.map A.eval, capt.toList.map A.eval, ?_, Rvs_map fun x hx => he.ev ?_, Rvs_map fun x hx => he.ev ?_⟩
    · rw [execOp.eq_1]; simp only [ho]; rfl
    · congr 1 <;> (apply Array.ext'; simp)
    · simp [ho, Op.operands]; left; simpa using hx
    · simp [ho, Op.operands]; right; simpa using hx

theorem step_extract {x : Operand} {i : Nat} {l : List AV} {v : AV} (ho : o.op = .extract x i) (hx : ev look x = .tup l) (hv : l[i]? = some v) : OpStep P G o look H v H :=
  OpStep.value fun ρ A w hi he => by
    have hrx := he.ev (x := x) (by simp [ho, Op.operands])
    rw [hx] at hrx
    obtain ⟨vs, h1, h2⟩ := hrx
    have : ∀ {l : List AV} {vs : List Value} {i : Nat}, Rvs ρ (shs H) w l vs → l[i]? = some v → ∃ u, vs[i]? = some u ∧ Rv ρ (shs H) w v u := by
      intro l
      induction l with
      | nil => intro vs i _ h; simp at h
      | cons a l ih =>
        intro vs i h hv
        cases vs with
        | nil => exact h.elim
        | cons u vs =>
          cases i with
          | zero => simp at hv; subst hv; exact ⟨u, by simp, h.1⟩
          | succ i =>
            obtain ⟨u', h1, h2⟩ := ih (vs := vs) (i := i) h.2 (by simpa using hv)
            exact ⟨u', by simpa using h1, h2⟩
    obtain ⟨u, h3, h4⟩ := this h2 hv
    refine ⟨u, ?_, h4⟩
    rw [execOp.eq_1]
    simp [ho, h1, Instr.extract, h3]

theorem flat_part {τ s : Sh} {v : DV} {p : List Nat} {off : Nat} (h : Has τ v) (ha : τ.at? p = some (off, s)) :
    (flat τ v).toArray.extract off (off + s.size) = (flat s (v.get p)).toArray ∧ (s.agg = false → ∃ x, flat s (v.get p) = [x] ∧ (flat τ v).toArray[off]? = some x) := by
  obtain ⟨h1, ⟨a, b, h2, rfl⟩, h3⟩ := get_flat h ha
  have hl := flat_length h1
  constructor
  · rw [h2, ← hl]
    apply Array.ext'
    simp
  · intro hs
    obtain ⟨x, hx⟩ := flat_one h1 hs
    refine ⟨x, hx, ?_⟩
    rw [h2, hx]
    simp

theorem run_part {w : World} {τ s : Sh} {v : DV} {p : List Nat} {off : Nat} {t : TypeId} (h : Has τ v) (ha : τ.at? p = some (off, s)) (ht : TyOk P s t) :
    (part t (flat τ v).toArray off).run P w = .ok (enc s (v.get p)) w := by
  obtain ⟨h1, h2⟩ := flat_part h ha
  unfold part
  rw [Sem.run_bind, ht.isAgg w]
  simp only [Result.andThen_ok]
  cases hs : s.agg with
  | true =>
    simp only [if_true, Sem.run_bind, ht.sizeOf w, Result.andThen_ok, h1, enc, hs]
    rfl
  | false =>
    obtain ⟨x, hx, hx2⟩ := h2 hs
    simp only [Bool.false_eq_true, if_false, hx2, enc, hs, hx]
    rfl

theorem step_field {t : TypeId} {x : Operand} {f : Nat} {τ s : Sh} {v : DV} (ho : o.op = .field t x f) (hx : ev look x = .agg τ v) (ht : TyOk P τ t) (hn : ∀ n e, τ ≠ .arr n e) (hf : τ.fld f = some s) :
    OpStep P G o look H (ofD s (v.get [f])) H :=
  OpStep.value fun ρ a w hi he => by
    have hr := he.ev (x := x) (by simp [ho, Op.operands])
    rw [hx] at hr
    obtain ⟨_, h2, h3⟩ := hr
    obtain ⟨fs, fd, fo, k1, k2, k3, k4, k5, k6⟩ := ht.field hn hf
    refine ⟨enc s (v.get [f]), ?_, Rv_ofD (get_flat h2 k3).1⟩
    rw [execOp.eq_1]
    have := run_part (P := P) (w := w) h2 k3 k5
    simp [ho, h3, Instr.field, run_underlying k1, k2, asAgg, k4, this]

theorem step_index {t : TypeId} {x y : Operand} {n : Nat} {e : Sh} {v : DV} {k : IntKind} {i : Int} (ho : o.op = .index t x y) (hx : ev look x = .agg (.arr n e) v) (hy : ev look y = .int k i) (ht : TyOk P (.arr n e) t)
    (h0 : 0 ≤ i) (h1 : i < n) : OpStep P G o look H (ofD e (v.get [i.toNat])) H :=
  OpStep.value fun ρ a w hi he => by
    have hr := he.ev (x := x) (by simp [ho, Op.operands])
    have hry := he.ev (x := y) (by simp [ho, Op.operands])
    rw [hx] at hr; rw [hy] at hry
    obtain ⟨_, h2, h3⟩ := hr
    simp only [Rv] at hry
    simp only [TyOk] at ht
    obtain ⟨⟨et, hu, he'⟩, _⟩ := ht
    have ha : (Sh.arr n e).at? [i.toNat] = some (i.toNat * e.size, e) := by
      simp only [Sh.at?]
      rw [if_pos (by omega)]
      simp
    refine ⟨enc e (v.get [i.toNat]), ?_, Rv_ofD (get_flat h2 ha).1⟩
    rw [execOp.eq_1]
    have := run_part (P := P) (w := w) h2 ha he'
    simp [ho, h3, hry, Instr.index, asIntOf, run_underlying hu, h0, h1, he'.sizeOf w, this]

theorem step_indexStr {t : TypeId} {x y : Operand} {s : ByteArray} {k : IntKind} {i : Int} {c : UInt8} (ho : o.op = .index t x y) (hx : ev look x = .str s) (hy : ev look y = .int k i) (ht : TyOk P .str t)
    (h0 : 0 ≤ i) (hc : s[i.toNat]? = some c) : OpStep P G o look H (.int .u8 c.toNat) H :=
  OpStep.value fun ρ a w hi he => by
    have hr := he.ev (x := x) (by simp [ho, Op.operands])
    have hry := he.ev (x := y) (by simp [ho, Op.operands])
    rw [hx] at hr; rw [hy] at hry
    simp only [Rv] at hry hr
    simp only [TyOk] at ht
    refine ⟨.int .u8 c.toNat, ?_, rfl⟩
    rw [execOp.eq_1]
    simp [ho, hr, hry, Instr.index, asIntOf, run_underlying ht.1, h0, hc]

theorem step_indexAddr {t : TypeId} {x y : Operand} {n b : Nat} {p : List Nat} {e : Sh} {k : IntKind} {i : Int} (ho : o.op = .indexAddr t x y) (hx : ev look x = .ptr b p (.arr n e)) (hy : ev look y = .int k i) (ht : TyOk P (.arr n e) t)
    (h0 : 0 ≤ i) (h1 : i < n) : OpStep P G o look H (.ptr b (p ++ [i.toNat]) e) H :=
  OpStep.value fun ρ a w hi he => by
    have hr := he.ev (x := x) (by simp [ho, Op.operands])
    have hry := he.ev (x := y) (by simp [ho, Op.operands])
    rw [hx] at hr; rw [hy] at hry
    obtain ⟨sh, off, k1, k2, k3⟩ := hr
    simp only [Rv] at hry
    simp only [TyOk] at ht
    obtain ⟨⟨et, hu, he'⟩, _⟩ := ht
    have ha : (Sh.arr n e).at? [i.toNat] = some (i.toNat * e.size, e) := by
      simp only [Sh.at?]
      rw [if_pos (by omega)]
      simp
    refine ⟨.pointer (some ⟨ρ b, off + i.toNat * e.size, none⟩), ?_, ⟨sh, _, k1, ?_, rfl⟩⟩
    · rw [execOp.eq_1]
      simp [ho, k3, hry, Instr.indexAt, asIntOf, run_underlying hu, Instr.sureAddr, h0, h1, he'.sizeOf w, add_addr]
    · cases sh with
      | data σ => exact at_snoc k2 ha
      | seq e' =>
        cases p with
        | nil => simp [BSh.at?] at k2
        | cons j p =>
          simp only [BSh.at?, Option.map_eq_some_iff] at k2
          obtain ⟨⟨q, r⟩, k2, heq⟩ := k2
          cases heq
          have := at_snoc k2 ha
          simp [BSh.at?, this, Nat.add_assoc]
      | ref => simp [BSh.at?] at k2

/-- The element type of a slice's type. -/
def SlOk (P : Program) (t : TypeId) (e : Sh) : Prop := ∃ et, P.underlying t = some (.slice et) ∧ TyOk P e et ∧ e.size ≠ 0

theorem step_indexSl {t : TypeId} {x y : Operand} {b lo len : Nat} {e : Sh} {k : IntKind} {i : Int} (ho : o.op = .indexAddr t x y) (hx : ev look x = .slc b lo len) (hy : ev look y = .int k i) (ht : SlOk P t e)
    (hs : (shs H)[b]? = some (.seq e)) (h0 : 0 ≤ i) (h1 : i < len) : OpStep P G o look H (.ptr b [lo + i.toNat] e) H :=
  OpStep.value fun ρ a w hi he => by
    have hr := he.ev (x := x) (by simp [ho, Op.operands])
    have hry := he.ev (x := y) (by simp [ho, Op.operands])
    rw [hx] at hr; rw [hy] at hry
    obtain ⟨e', k1, k2⟩ := hr
    rw [hs] at k1
    cases k1
    simp only [Rv] at hry
    obtain ⟨et, hu, he', hne⟩ := ht
    have hlen : 0 < len := by omega
    rcases k2 with ⟨cap, k3, k4, k5⟩ | ⟨k3, _⟩
    · refine ⟨.pointer (some ⟨ρ b, lo * e.size + i.toNat * e.size, none⟩), ?_, ⟨_, (lo + i.toNat) * e.size + 0, hs, ?_, ?_⟩⟩
      · rw [execOp.eq_1]
        simp [ho, k3, hry, Instr.indexAt, asIntOf, run_underlying hu, h0, h1, he'.sizeOf w, add_addr]
      · cases e <;> simp [BSh.at?, Sh.at?]
      · rw [Nat.add_mul, Nat.add_zero]
    · omega
end ops
end Ink
