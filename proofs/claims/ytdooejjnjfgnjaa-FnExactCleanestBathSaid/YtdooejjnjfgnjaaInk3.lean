/- What one operation of the model does to the abstract state, one lemma a kind of operation. No conditions. -/
import Derived.Test.YtdooejjnjfgnjaaInk2
import Derived.Laws.Tables
import Derived.Laws.World
set_option linter.unusedVariables false
set_option linter.unusedSimpArgs false
namespace Ink
open Go

def Sh.zero : Sh → DV
  | .int k => .int k 0
  | .bool => .bool false
  | .str => .str ⟨#[]⟩
  | .arr _ e => .arr fun _ => e.zero
  | .unit => .unit
  | .cons a b => .cons a.zero b.zero

theorem Has_zero : ∀ τ : Sh, Has τ τ.zero
  | .int _ => rfl
  | .bool => trivial
  | .str => trivial
  | .arr _ e => fun _ _ => Has_zero e
  | .unit => trivial
  | .cons a b => ⟨Has_zero a, Has_zero b⟩

def enc (τ : Sh) (v : DV) : Value := if τ.agg then .agg (flat τ v).toArray else (flat τ v).headD undef

def ofD : Sh → DV → AV
  | .int _, .int k n => .int k n
  | .bool, .bool b => .bool b
  | .str, .str s => .str s
  | τ, v => .agg τ v

theorem Rv_ofD {ρ S w} {τ : Sh} {v : DV} (h : Has τ v) : Rv ρ S w (ofD τ v) (enc τ v) := by
  cases τ <;> cases v <;> simp only [Has] at h <;> first
    | (subst h; simp [ofD, enc, Sh.agg, flat, Rv]; done)
    | (simp [ofD, enc, Sh.agg, flat, Rv]; done)
    | (simp only [ofD, enc, Sh.agg, if_true, Rv]; exact ⟨trivial, h, rfl⟩)
    | (simp only [ofD, enc, Sh.agg, if_true, Rv, Has]; exact ⟨h, rfl⟩)
    | (simp only [ofD, enc, Sh.agg, if_true, Rv]; simp only [Has]; exact ⟨by first | trivial | exact h, by first | trivial | exact h, rfl⟩)
    | (refine ⟨?_, ?_, ?_⟩ <;> first | rfl | exact h)

/-- The shape and the data of a value without pointers. -/
inductive IsD : AV → Sh → DV → Prop where
  | int (k n) : IsD (.int k n) (.int k) (.int k n)
  | bool (b) : IsD (.bool b) .bool (.bool b)
  | str (s) : IsD (.str s) .str (.str s)
  | agg (τ v) : IsD (.agg τ v) τ v

theorem Rv_isD {ρ S w} {a : AV} {τ : Sh} {v : DV} {x : Value} (h : IsD a τ v) (r : Rv ρ S w a x) : Has τ v ∧ x = enc τ v := by
  cases h with
  | int k n => simp only [Rv] at r; subst r; exact ⟨rfl, by simp [enc, Sh.agg, flat]⟩
  | bool b => simp only [Rv] at r; subst r; exact ⟨trivial, by simp [enc, Sh.agg, flat]⟩
  | str s => simp only [Rv] at r; subst r; exact ⟨trivial, by simp [enc, Sh.agg, flat]⟩
  | agg τ v => simp only [Rv] at r; obtain ⟨h1, h2, h3⟩ := r; exact ⟨h2, by simp [enc, h1, h3]⟩

theorem flat_one {τ : Sh} {v : DV} (h : Has τ v) (ha : τ.agg = false) : ∃ x, flat τ v = [x] := by
  cases τ <;> cases v <;> simp only [Has, Sh.agg] at h ha <;> first | exact ⟨_, rfl⟩ | cases ha | cases h

theorem enc_cells {τ : Sh} {v : DV} (h : Has τ v) : (enc τ v).cells = (flat τ v).toArray := by
  unfold enc
  split
  · rfl
  · rename_i ha
    obtain ⟨x, hx⟩ := flat_one h (by simpa using ha)
    have := oneCell_flat (τ := τ) (v := v) x (by simp [hx])
    rw [hx]
    cases x <;> simp_all [Value.cells, Value.oneCell']

/-! ### Types -/
def InfoOk (P : Program) (t : TypeId) (τ : Sh) : Prop := ∃ i, P.info? t = some i ∧ i.size = τ.size ∧ i.zero = some (enc τ τ.zero) ∧ i.bytes ≤ 65536

mutual
def TyOk (P : Program) : Sh → TypeId → Prop
  | .int k, t => P.underlying t = some (.int k) ∧ InfoOk P t (.int k)
  | .bool, t => P.underlying t = some .bool ∧ InfoOk P t .bool
  | .str, t => P.underlying t = some .string ∧ InfoOk P t .str
  | .arr n e, t => (∃ et, P.underlying t = some (.array n et) ∧ TyOk P e et) ∧ InfoOk P t (.arr n e)
  | .unit, t => P.underlying t = some (.struct #[]) ∧ InfoOk P t .unit
  | .cons a b, t => (∃ fs f r, P.underlying t = some (.struct fs) ∧ fs.toList = f :: r ∧ f.offset = 0 ∧ a.size ≠ 0 ∧ TyOk P a f.type ∧ FldOk P b r a.size) ∧ InfoOk P t (.cons a b)
def FldOk (P : Program) : Sh → List Field → Nat → Prop
  | .cons a b, f :: r, o => f.offset = o ∧ a.size ≠ 0 ∧ TyOk P a f.type ∧ FldOk P b r (o + a.size)
  | .unit, [], _ => True
  | _, _, _ => False
end

theorem TyOk.info {P : Program} {τ : Sh} {t : TypeId} (h : TyOk P τ t) : InfoOk P t τ := by
  cases τ <;> simp only [TyOk] at h <;> exact h.2

theorem TyOk.isAgg {P : Program} {τ : Sh} {t : TypeId} (h : TyOk P τ t) (w : World) : (isAgg t).run P w = .ok τ.agg w := by
  unfold Go.isAgg
  rw [Sem.run_bind]
  cases τ <;> simp only [TyOk] at h <;> simp only [Sh.agg]
  · rw [run_underlying h.1]; rfl
  · rw [run_underlying h.1]; rfl
  · rw [run_underlying h.1]; rfl
  · obtain ⟨⟨et, h, _⟩, _⟩ := h; rw [run_underlying h]; rfl
  · rw [run_underlying h.1]; rfl
  · obtain ⟨⟨fs, f, r, h, _⟩, _⟩ := h; rw [run_underlying h]; rfl

theorem TyOk.sizeOf {P : Program} {τ : Sh} {t : TypeId} (h : TyOk P τ t) (w : World) : (Go.sizeOf t).run P w = .ok τ.size w := by
  obtain ⟨i, h1, h2, _⟩ := h.info
  simp [Go.sizeOf, typeInfo, h1, h2]
theorem TyOk.zero {P : Program} {τ : Sh} {t : TypeId} (h : TyOk P τ t) (w : World) : (zeroValue t).run P w = .ok (enc τ τ.zero) w := by
  obtain ⟨i, h1, _, h2, _⟩ := h.info
  simp [zeroValue, typeInfo, h1, h2]
theorem TyOk.und {P : Program} {τ : Sh} {t : TypeId} (h : TyOk P τ t) : ∃ d, P.underlying t = some d := by
  cases τ <;> simp only [TyOk] at h
  · exact ⟨_, h.1⟩
  · exact ⟨_, h.1⟩
  · exact ⟨_, h.1⟩
  · obtain ⟨⟨et, h, _⟩, _⟩ := h; exact ⟨_, h⟩
  · exact ⟨_, h.1⟩
  · obtain ⟨⟨fs, f, r, h, _⟩, _⟩ := h; exact ⟨_, h⟩

def Sh.fld (τ : Sh) (i : Nat) : Option Sh := (τ.at? [i]).map (·.2)

theorem FldOk.get {P : Program} : ∀ {b : Sh} {r : List Field} {o i : Nat} {s : Sh}, FldOk P b r o → b.fld i = some s →
    ∃ f o', r[i]? = some f ∧ b.at? [i] = some (o', s) ∧ f.offset = o + o' ∧ TyOk P s f.type ∧ s.size ≠ 0
  | .cons a b, f :: r, o, 0, s, h, hs => by
    simp only [FldOk] at h
    simp [Sh.fld, Sh.at?] at hs
    subst hs
    exact ⟨f, 0, by simp, by simp [Sh.at?], by omega, h.2.2.1, h.2.1⟩
  | .cons a b, f :: r, o, i + 1, s, h, hs => by
    simp only [FldOk] at h
    have hs' : b.fld i = some s := by
      simp only [Sh.fld, Sh.at?, Option.map_map] at hs ⊢
      exact hs
    obtain ⟨g, o', h1, h2, h3, h4, h5⟩ := FldOk.get h.2.2.2 hs'
    exact ⟨g, a.size + o', by simpa using h1, by simp [Sh.at?, h2], by omega, h4, h5⟩
  | .unit, [], _, _, _, _, hs => by simp [Sh.fld, Sh.at?] at hs

theorem TyOk.field {P : Program} {τ : Sh} {t : TypeId} {i : Nat} {s : Sh} (h : TyOk P τ t) (hn : ∀ n e, τ ≠ .arr n e) (hs : τ.fld i = some s) :
    ∃ fs f o, P.underlying t = some (.struct fs) ∧ fs[i]? = some f ∧ τ.at? [i] = some (o, s) ∧ f.offset = o ∧ TyOk P s f.type ∧ s.size ≠ 0 := by
  cases τ <;> first | (simp [Sh.fld, Sh.at?] at hs; done) | (exact absurd rfl (hn _ _)) | skip
  rename_i a b
  simp only [TyOk] at h
  obtain ⟨⟨fs, f, r, h1, h2, h3, h4, h5, h6⟩, _⟩ := h
  have : FldOk P (.cons a b) fs.toList 0 := by rw [h2]; simp only [FldOk]; exact ⟨h3, h4, h5, by simpa using h6⟩
  obtain ⟨g, o, k1, k2, k3, k4, k5⟩ := FldOk.get this hs
  exact ⟨fs, g, o, h1, by simpa using k1, k2, by omega, k4, k5⟩

/-- A one-cell variable that holds a pointer, a slice or a function. -/
def RefOk (P : Program) (t : TypeId) (z : AV) : Prop :=
  ∃ d i, P.underlying t = some d ∧ P.info? t = some i ∧ i.size = 1 ∧ (∃ x, i.zero = some x ∧ x.oneCell' = true ∧ (∀ ρ S w, Rv ρ S w z x)) ∧
    (match d with | .struct _ | .array _ _ => false | _ => true) = true

structure Ctx where
  P : Program
  ty : TypeId → Option Sh
  sl : TypeId → Option Sh
  rf : TypeId → Option AV
  eq : TypeId → Bool
  quiet : FuncId → Bool
  ap : Nat → Option Tmp → List (Tmp × Tmp)

structure Ctx.Ok (C : Ctx) : Prop where
  mixed : C.P.follows .mixedOrders = true
  ty : ∀ t τ, C.ty t = some τ → TyOk C.P τ t
  sl : ∀ t e, C.sl t = some e → ∃ et, C.P.underlying t = some (.slice et) ∧ TyOk C.P e et ∧ e.size ≠ 0
  rf : ∀ t z, C.rf t = some z → RefOk C.P t z
  eq : ∀ t, C.eq t = true → C.P.eqGuardType C.P.depth t = false ∧ C.P.stoodInHeld t = false ∧ (∀ fs, C.P.underlying t = some (.struct fs) → ∀ f ∈ fs.toList, f.name ≠ "_")

/-! ### The state -/
structure Ent where
  ρ : Nat → Nat
  w : World
  S : List BSh
  W : List Nat

structure Inv (G : Ent) (ρ : Nat → Nat) (H : Heap) (w : World) : Prop where
  rel : Rel ρ H w
  os : w.os = G.w.os
  tape : w.tape = G.w.tape
  out : w.output = G.w.output
  size : G.w.heap.size ≤ w.heap.size
  old : ∀ b, b < G.w.heap.size → (∀ i, i ∈ G.W → i < G.S.length → G.ρ i ≠ b) → w.heap[b]? = G.w.heap[b]?
  sz : ∀ b, bsz G.w b ≤ bsz w b
  pre : ∀ i, i < G.S.length → ρ i = G.ρ i
  new : ∀ i, G.S.length ≤ i → i < H.length → G.w.heap.size ≤ ρ i
  sh : G.S <+: shs H

def Ent.may (G : Ent) (b : Nat) : Prop := G.S.length ≤ b ∨ b ∈ G.W

theorem Inv.len {G ρ H w} (h : Inv G ρ H w) : G.S.length ≤ H.length := by have := h.sh.length_le; rwa [shs_length] at this

theorem Inv.push {G ρ H w} (h : Inv G ρ H w) {B : Blk} {o : Obj} (hB : RB (upd ρ H.length w.heap.size) (shs (H ++ [B])) (World.push w o) B (some o)) :
    Inv G (upd ρ H.length w.heap.size) (H ++ [B]) (World.push w o) := by
  have hl := h.len
  refine ⟨h.rel.push hB, h.os, h.tape, h.out, ?_, ?_, fun b => Nat.le_trans (h.sz b) (bsz_push w o b), fun i hi => ?_, fun i h1 h2 => ?_, ?_⟩
  · have := h.size; rw [push_heap, Array.size_push]; omega
  · intro b hb hn
    rw [push_heap, Array.getElem?_push, if_neg (by have := h.size; omega)]
    exact h.old b hb hn
  · rw [upd_ne (by omega)]; exact h.pre i hi
  · by_cases hi : i = H.length
    · subst hi; rw [upd_same]; exact h.size
    · rw [upd_ne hi]; exact h.new i h1 (by simp at h2; omega)
  · rw [shs_append]; exact h.sh.trans (List.prefix_append _ _)

theorem Inv.put {G ρ H w} (h : Inv G ρ H w) {i : Nat} {A B : Blk} {c c' : Array Value} {T : TypeId} {fz : Nat × Nat} (hm : G.may i) (hi : H[i]? = some A)
    (hw : A.wr = true) (hs : B.sh = A.sh) (hbw : B.wr = true) (hc : w.heap[ρ i]? = some (.cells c T fz)) (hz : c'.size = c.size)
    (hB : RB ρ (shs H) (World.putBlock w (ρ i) c') B (some (.cells c' T fz))) : Inv G ρ (H.set i B) (World.putBlock w (ρ i) c') := by
  refine ⟨h.rel.put hi hw hs hbw hc hz hB, h.os, h.tape, h.out, by rw [putBlock_size]; exact h.size, ?_, fun b => by rw [bsz_putBlock hc hz]; exact h.sz b, h.pre, fun j h1 h2 => h.new j h1 (by simpa using h2), by rw [shs_set hi hs]; exact h.sh⟩
  intro b hb hn
  rw [putBlock_other]
  · exact h.old b hb hn
  · intro e
    rcases hm with hm | hm
    · have := h.new i hm (get_lt hi); omega
    · by_cases hl : i < G.S.length
      · exact hn i hm hl (by rw [← h.pre i hl]; exact e.symm)
      · have := h.new i (by omega) (get_lt hi); omega

theorem Inv.kill {G ρ H w} (h : Inv G ρ H w) {i : Nat} {A : Blk} (hi : H[i]? = some A) : Inv G ρ (H.set i (.dead A.sh)) w :=
  ⟨h.rel.kill hi, h.os, h.tape, h.out, h.size, h.old, h.sz, h.pre, fun j h1 h2 => h.new j h1 (by simpa using h2), by rw [shs_set (B := .dead A.sh) hi rfl]; exact h.sh⟩

def opTmps (o : Op) : List Tmp := o.operands.toList.filterMap fun | .tmp t => some t | _ => none

def ev (look : Tmp → AV) : Operand → AV
  | .tmp t => look t
  | .const (.int k n) => .int k n
  | .const (.bool b) => .bool b
  | .const (.string s) => .str s
  | .const (.pointer none) => .nilp
  | .const (.slice none 0 0) => .nils
  | .func f => .fn f [] []
  | _ => .junk

def EnvOn (ρ : Nat → Nat) (S : List BSh) (w : World) (o : Op) (look : Tmp → AV) (a : Act) : Prop := ∀ t ∈ opTmps o, Rv ρ S w (look t) (a.tmps.getD t undef)

theorem EnvOn.ev {ρ S w o look a} (h : EnvOn ρ S w o look a) {x : Operand} (hx : x ∈ o.operands) : Rv ρ S w (ev look x) (a.eval x) := by
  cases x with
  | tmp t => exact h t (by simp only [opTmps, List.mem_filterMap]; exact ⟨_, by simpa using hx, rfl⟩)
  | const v =>
    cases v <;> try trivial
    · rename_i p; cases p <;> first | rfl | trivial
    · rename_i p n m
      cases p with
      | some _ => trivial
      | none =>
        cases n with
        | zero => cases m with
          | zero => rfl
          | succ _ => trivial
        | succ _ => trivial
  | global g => trivial
  | func f => exact ⟨[], [], rfl, trivial, trivial⟩

/-- One operation, wanted: from the heap 'H' to the value 'v' and the heap 'H''. -/
def OpStep (P : Program) (G : Ent) (o : Oper) (look : Tmp → AV) (H : Heap) (v : AV) (H' : Heap) : Prop :=
  ∀ ρ a w (K : Act → World → Prop) Q, Inv G ρ H w → EnvOn ρ (shs H) w o.op look a →
    (∀ x w' ρ', Inv G ρ' H' w' → Ext ρ (shs H) w ρ' (shs H') w' → Rv ρ' (shs H') w' v x → K (a.put o.dst x) w') → o.wp P a w K Q

theorem OpStep.value {P G o look H v} (h : ∀ ρ a w, Inv G ρ H w → EnvOn ρ (shs H) w o.op look a → ∃ x, (execOp a.eval o).run P w = .ok (.value x) w ∧ Rv ρ (shs H) w v x) : OpStep P G o look H v H := by
  intro ρ a w K Q hi he hk
  obtain ⟨x, hr, hx⟩ := h ρ a w hi he
  unfold Oper.wp
  rw [hr]
  exact hk x w ρ hi (Ext.refl _ _ _) hx

theorem OpStep.made {P G o look H v B} (h : ∀ ρ a w, Inv G ρ H w → EnvOn ρ (shs H) w o.op look a → ∃ x ob, (execOp a.eval o).run P w = .ok (.value x) (World.push w ob) ∧
    RB (upd ρ H.length w.heap.size) (shs (H ++ [B])) (World.push w ob) B (some ob) ∧ Rv (upd ρ H.length w.heap.size) (shs (H ++ [B])) (World.push w ob) v x) : OpStep P G o look H v (H ++ [B]) := by
  intro ρ a w K Q hi he hk
  obtain ⟨x, ob, hr, hB, hx⟩ := h ρ a w hi he
  unfold Oper.wp
  rw [hr]
  exact hk x _ _ (hi.push hB) (Ext.push B ob) hx

section ops
variable {P : Program} {G : Ent} {o : Oper} {look : Tmp → AV} {H : Heap}

theorem step_move {x : Operand} (ho : o.op = .move x) : OpStep P G o look H (ev look x) H :=
  OpStep.value fun ρ a w _ he => ⟨a.eval x, by rw [execOp.eq_1]; simp only [ho]; rfl, he.ev (by simp [ho, Op.operands])⟩
theorem step_assign {x : Operand} (ho : o.op = .assign x) : OpStep P G o look H (ev look x) H :=
  OpStep.value fun ρ a w _ he => ⟨a.eval x, by rw [execOp.eq_1]; simp only [ho]; rfl, he.ev (by simp [ho, Op.operands])⟩
end ops
end Ink
