/- Slices, append, composite literals, the builtins len, min, max, and '==' on data: what each does to the abstract state. No conditions. -/
import Derived.Test.YtdooejjnjfgnjaaInk7
set_option linter.unusedVariables false
set_option linter.unusedSimpArgs false
namespace Ink
open Go

theorem Inv.drew {G ρ H w} (h : Inv G ρ H w) : Inv G ρ H w.drew := ⟨⟨fun i B hi => RB.mono (ρ := ρ) (S := shs H) (w := w) (ρ' := ρ) (S' := shs H) (w' := w.drew) (o := w.heap[ρ i]?) ⟨fun _ _ => rfl, List.prefix_refl _, fun b => Nat.le_refl (bsz w b)⟩ (h.rel.blk i B hi), h.rel.sep⟩, h.os, h.tape, h.out, h.size, h.old, h.sz, h.pre, h.new, h.sh⟩
theorem Ext.drew {ρ S w} : Ext ρ S w ρ S w.drew := ⟨fun _ _ => rfl, List.prefix_refl _, fun _ => Nat.le_refl _⟩

theorem Ext.kill {ρ H w i A} (hi : H[i]? = some A) : Ext ρ (shs H) w ρ (shs (List.set H i (Blk.dead A.sh))) w := by rw [shs_set (B := .dead A.sh) hi rfl]; exact Ext.refl _ _ _

section
variable {P : Program} {G : Ent} {o : Oper} {look : Tmp → AV} {H : Heap}

theorem step_pick {c x y : Operand} {t : Bool} (ho : o.op = .pick c x y) (hc : ev look c = .bool t) : OpStep P G o look H (if t then ev look x else ev look y) H :=
  OpStep.value fun ρ a w hi he => by
    have hr := he.ev (x := c) (by simp [ho, Op.operands])
    rw [hc] at hr
    simp only [Rv] at hr
    refine ⟨if t then a.eval x else a.eval y, ?_, ?_⟩
    · rw [execOp.eq_1]; simp only [ho, hr, asBool]; rfl
    · cases t
      · exact he.ev (by simp [ho, Op.operands])
      · exact he.ev (by simp [ho, Op.operands])

theorem step_lenSl {x : Operand} {t : TypeId} {b lo n : Nat} {e : Sh} (ho : o.op = .call ⟨.builtin .len, #[x], #[t]⟩) (hx : ev look x = .slc b lo n) (ht : SlOk P t e) : OpStep P G o look H (.int .i64 n) H :=
  OpStep.value fun ρ a w hi he => by
    have hr := he.ev (x := x) (by simp [ho, Op.operands, Call.operands])
    rw [hx] at hr
    obtain ⟨et, hu, _, _⟩ := ht
    refine ⟨.int .i64 n, ?_, rfl⟩
    rw [execOp.eq_1]
    obtain ⟨e', h1, ⟨cap, h2, _, _⟩ | ⟨h2, ad, h3⟩⟩ := hr
    · simp [ho, resolve, invoke, builtin, Builtin.len_, h2, run_underlying hu, goInt]
    · subst h2
      simp [ho, resolve, invoke, builtin, Builtin.len_, h3, run_underlying hu, goInt]

theorem step_lenNils {x : Operand} {t : TypeId} {e : Sh} (ho : o.op = .call ⟨.builtin .len, #[x], #[t]⟩) (hx : ev look x = .nils) (ht : SlOk P t e) : OpStep P G o look H (.int .i64 0) H :=
  OpStep.value fun ρ a w hi he => by
    have hr := he.ev (x := x) (by simp [ho, Op.operands, Call.operands])
    rw [hx] at hr
    simp only [Rv] at hr
    obtain ⟨et, hu, _, _⟩ := ht
    refine ⟨.int .i64 0, ?_, rfl⟩
    rw [execOp.eq_1]
    simp [ho, resolve, invoke, builtin, Builtin.len_, hr, run_underlying hu, goInt]

theorem step_lenStr {x : Operand} {t : TypeId} {s : ByteArray} (ho : o.op = .call ⟨.builtin .len, #[x], #[t]⟩) (hx : ev look x = .str s) (ht : TyOk P .str t) : OpStep P G o look H (.int .i64 s.size) H :=
  OpStep.value fun ρ a w hi he => by
    have hr := he.ev (x := x) (by simp [ho, Op.operands, Call.operands])
    rw [hx] at hr
    simp only [Rv] at hr
    simp only [TyOk] at ht
    refine ⟨.int .i64 s.size, ?_, rfl⟩
    rw [execOp.eq_1]
    simp [ho, resolve, invoke, builtin, Builtin.len_, hr, run_underlying ht.1, goInt]

theorem step_lenArr {x : Operand} {t : TypeId} {n : Nat} {e : Sh} (ho : o.op = .call ⟨.builtin .len, #[x], #[t]⟩) (ht : TyOk P (.arr n e) t) : OpStep P G o look H (.int .i64 n) H :=
  OpStep.value fun ρ a w hi he => by
    simp only [TyOk] at ht
    obtain ⟨⟨et, hu, _⟩, _⟩ := ht
    refine ⟨.int .i64 n, ?_, rfl⟩
    rw [execOp.eq_1]
    simp [ho, resolve, invoke, builtin, Builtin.len_, run_underlying hu, goInt]

def mm (mx : Bool) (x y : Int) : Int := if mx then (if y > x then y else x) else (if y < x then y else x)

theorem step_mm2 {mx : Bool} {x y : Operand} {ts : Array TypeId} {k k' : IntKind} {a b : Int} (ho : o.op = .call ⟨.builtin (if mx then .max else .min), #[x, y], ts⟩) (hx : ev look x = .int k a) (hy : ev look y = .int k' b) :
    OpStep P G o look H (.int k (mm mx a b)) H :=
  OpStep.value fun ρ A w hi he => by
    have hrx := he.ev (x := x) (by simp [ho, Op.operands, Call.operands])
    have hry := he.ev (x := y) (by simp [ho, Op.operands, Call.operands])
    rw [hx] at hrx; rw [hy] at hry
    simp only [Rv] at hrx hry
    refine ⟨_, ?_, rfl⟩
    rw [execOp.eq_1]
    cases mx <;> simp [ho, resolve, invoke, builtin, Builtin.max_, Builtin.min_, hrx, hry, Builtin.max2, Builtin.min2, mm]

theorem step_mm3 {mx : Bool} {x y z : Operand} {ts : Array TypeId} {k k' k'' : IntKind} {a b c : Int} (ho : o.op = .call ⟨.builtin (if mx then .max else .min), #[x, y, z], ts⟩) (hx : ev look x = .int k a) (hy : ev look y = .int k' b) (hz : ev look z = .int k'' c) :
    OpStep P G o look H (.int k (mm mx (mm mx a b) c)) H :=
  OpStep.value fun ρ A w hi he => by
    have hrx := he.ev (x := x) (by simp [ho, Op.operands, Call.operands])
    have hry := he.ev (x := y) (by simp [ho, Op.operands, Call.operands])
    have hrz := he.ev (x := z) (by simp [ho, Op.operands, Call.operands])
    rw [hx] at hrx; rw [hy] at hry; rw [hz] at hrz
    simp only [Rv] at hrx hry hrz
    refine ⟨_, ?_, rfl⟩
    rw [execOp.eq_1]
    cases mx <;> simp [ho, resolve, invoke, builtin, Builtin.max_, Builtin.min_, hrx, hry, hrz, Builtin.max2, Builtin.min2, mm]

/-! ### Slices of slices -/
def bnd (look : Tmp → AV) (x : Option Operand) (dflt l : Nat) : Prop := match x with
  | none => l = dflt
  | some y => ∃ k, ev look y = .int k l
theorem step_slice {t : TypeId} {x : Operand} {lo hi : Option Operand} {b off n l h : Nat} {e : Sh} (ho : o.op = .slice t x lo hi none) (hx : ev look x = .slc b off n) (ht : SlOk P t e)
    (hS : (shs H)[b]? = some (.seq e))
    (hl : bnd look lo 0 l) (hh : bnd look hi n h) (hlh : l ≤ h) (hhn : h ≤ n) :
    OpStep P G o look H (.slc b (off + l) (h - l)) H :=
  OpStep.value fun ρ a w hi' he => by
    have hr := he.ev (x := x) (by simp [ho, Op.operands])
    rw [hx] at hr
    obtain ⟨et, hu, hte, hne⟩ := ht
    obtain ⟨e', h1, h2⟩ := hr
    rw [hS] at h1
    cases h1
    have hsize := hte.sizeOf w
    -- the bounds
    have hb : ∀ cap, n ≤ cap → (Instr.sliceBounds true n cap (lo.map a.eval) (hi.map a.eval) none).run P w = .ok (l, h, cap) w := by
      intro cap hc
      have e1 : ∀ (hq : Nat), (match hi.map a.eval with | some v => Instr.sliceBound v cap .sliceAcap | none => pure n).run P w = .ok h w := by
        intro _
        cases hi with
        | none => simp only [bnd] at hh; subst hh; rfl
        | some y =>
          obtain ⟨kh, hh⟩ := hh
          have hry := he.ev (x := y) (by simp [ho, Op.operands])
          rw [hh] at hry
          simp only [Rv] at hry
          simp only [Option.map_some, hry, Instr.sliceBound, asIntOf, Sem.run_bind, Sem.run_pure, Result.andThen_ok]
          rw [if_pos ⟨by omega, by omega⟩]
          simp
      have e2 : (match lo.map a.eval with | some v => Instr.sliceBound v h .sliceB | none => pure 0).run P w = .ok l w := by
        cases lo with
        | none => simp only [bnd] at hl; subst hl; rfl
        | some y =>
          obtain ⟨kl, hl⟩ := hl
          have hry := he.ev (x := y) (by simp [ho, Op.operands])
          rw [hl] at hry
          simp only [Rv] at hry
          simp only [Option.map_some, hry, Instr.sliceBound, asIntOf, Sem.run_bind, Sem.run_pure, Result.andThen_ok]
          rw [if_pos ⟨by omega, by omega⟩]
          simp
      have e1' := e1 0
      unfold Instr.sliceBounds
      cases hi with
      | none =>
        simp only [bnd] at hh
        subst hh
        cases lo with
        | none => simp only [bnd] at hl; subst hl; simp
        | some y => simp only [Option.map_some, Option.map_none] at e2 ⊢; simp [e2]
      | some z =>
        simp only [Option.map_some] at e1'
        cases lo with
        | none => simp only [bnd] at hl; subst hl; simp [e1']
        | some y => simp only [Option.map_some] at e2 ⊢; simp [e1', e2]
    rcases h2 with ⟨cap, h3, h4, h5⟩ | ⟨h3, ad, h4⟩
    · by_cases hcl : cap = l
      · refine ⟨.slice (some ⟨ρ b, off * e.size, none⟩) (h - l) (cap - l), ?_, ⟨e, hS, .inr ⟨by omega, some ⟨ρ b, off * e.size, none⟩, ?_⟩⟩⟩
        · rw [execOp.eq_1]
          have hb' := hb cap h4
          rw [hcl] at hb'
          simp [ho, h3, Instr.sliceAt, Instr.slice, run_underlying hu, hb', hsize, hcl]
        · rw [show h - l = 0 by omega, show cap - l = 0 by omega]
      · refine ⟨.slice (some ⟨ρ b, off * e.size + l * e.size, none⟩) (h - l) (cap - l), ?_, ⟨e, hS, .inl ⟨cap - l, by rw [Nat.add_mul], by omega, ?_⟩⟩⟩
        · rw [execOp.eq_1]
          simp [ho, h3, Instr.sliceAt, Instr.slice, run_underlying hu, hb cap h4, hsize, hcl, add_addr]
        · rw [show off + l + (cap - l) = off + cap by omega]; exact h5
    · subst h3
      obtain rfl : h = 0 := by omega
      obtain rfl : l = 0 := by omega
      refine ⟨.slice ad 0 0, ?_, ⟨e, hS, .inr ⟨rfl, ad, rfl⟩⟩⟩
      rw [execOp.eq_1]
      simp [ho, h4, Instr.sliceAt, Instr.slice, run_underlying hu, hb 0 (Nat.le_refl _), hsize]

/-! ### append -/
theorem flatMap_take {e : Sh} : ∀ {l : List DV} {n : Nat}, (∀ x ∈ l, Has e x) → (l.take n).flatMap (flat e) = (l.flatMap (flat e)).take (n * e.size)
  | [], n, _ => by simp
  | x :: l, 0, _ => by simp
  | x :: l, n + 1, h => by
    have hx := flat_length (h x (by simp))
    simp only [List.take_succ_cons, List.flatMap_cons]
    rw [flatMap_take fun y hy => h y (List.mem_cons_of_mem _ hy), show (n + 1) * e.size = (flat e x).length + n * e.size by rw [Nat.succ_mul, hx]; omega, List.take_length_add_append]
theorem flatMap_drop {e : Sh} : ∀ {l : List DV} {n : Nat}, (∀ x ∈ l, Has e x) → (l.drop n).flatMap (flat e) = (l.flatMap (flat e)).drop (n * e.size)
  | [], n, _ => by simp
  | x :: l, 0, _ => by simp
  | x :: l, n + 1, h => by
    have hx := flat_length (h x (by simp))
    simp only [List.drop_succ_cons, List.flatMap_cons]
    rw [flatMap_drop fun y hy => h y (List.mem_cons_of_mem _ hy), show (n + 1) * e.size = (flat e x).length + n * e.size by rw [Nat.succ_mul, hx]; omega, List.drop_length_add_append]

theorem oneCell_flatMap {e : Sh} {l : List DV} : ∀ u ∈ l.flatMap (flat e), u.oneCell' = true := by
  intro u hu
  rw [List.mem_flatMap] at hu
  obtain ⟨x, _, hx⟩ := hu
  exact oneCell_flat u hx

/-- The cells of a part of a block. -/
theorem cells_of {w : World} {g : Nat} {c : Array Value} {T : TypeId} {fz : Nat × Nat} (hg : w.heap[g]? = some (.cells c T fz)) {o : Nat} {xs : List Value} (h : LiesAt c.toList o xs) :
    ∀ j v, xs[j]? = some v → w.cell? ((⟨g, o, none⟩ : Addr).add j) = some v := by
  obtain ⟨a, b, h1, rfl⟩ := h
  intro j v hv
  rw [add_addr, cell_of_row w g _ c T fz hg, ← Array.getElem?_toList, h1, List.append_assoc, List.getElem?_append_right (by omega), List.getElem?_append_left (by simpa using get_lt hv)]
  simpa using hv

theorem LiesAt.take_drop {α : Type} {l : List α} {o n : Nat} (h : o + n ≤ l.length) : LiesAt l o ((l.drop o).take n) := by
  refine ⟨l.take o, (l.drop o).drop n, ?_, by simp; omega⟩
  rw [List.append_assoc, List.take_append_drop, List.take_append_drop]

/-- The blocks behind an append: the old one is given up, the new one lies where the old one lay or in a new place. -/
theorem Inv.alias {G ρ H w} (h : Inv G ρ H w) {b : Nat} {e : Sh} {l : List DV} {c c' : Array Value} {T : TypeId} {fz : Nat × Nat} {l' : List DV} (hm : G.S.length ≤ b) (hb : H[b]? = some (.seq true e l))
    (hc : w.heap[ρ b]? = some (.cells c T fz)) (hz : c'.size = c.size) (hl' : ∀ x ∈ l', Has e x) (hp : (l'.flatMap (flat e)) <+: c'.toList) :
    Inv G (upd ρ H.length (ρ b)) (H.set b (.dead (.seq e)) ++ [.seq true e l']) (World.putBlock w (ρ b) c') := by
  have hbl := get_lt hb
  have hlen := h.len
  have hfz : fz = (0, 0) := by
    obtain ⟨_, c0, T0, fz0, h1, _, h2⟩ := h.rel.blk b _ hb
    rw [hc] at h1
    cases h1
    exact h2 rfl
  have hshs : shs (H.set b (.dead (.seq e))) = shs H := shs_set (B := .dead (.seq e)) hb rfl
  have hE : Ext ρ (shs H) w (upd ρ H.length (ρ b)) (shs (H.set b (.dead (.seq e)) ++ [.seq true e l'])) (World.putBlock w (ρ b) c') := by
    refine ⟨fun i hi => upd_ne (by rw [shs_length] at hi; omega), ?_, fun k => by rw [bsz_putBlock hc hz]; exact Nat.le_refl _⟩
    rw [shs_append, hshs]; exact List.prefix_append _ _
  have get : ∀ i B, (H.set b (.dead (.seq e)) ++ [.seq true e l'])[i]? = some B → (i ≠ b ∧ i < H.length ∧ H[i]? = some B) ∨ (i = b ∧ B = .dead (.seq e)) ∨ (i = H.length ∧ B = .seq true e l') := by
    intro i B hi
    rcases Nat.lt_trichotomy i H.length with hlt | hlt | hlt
    · rw [List.getElem?_append_left (by simpa using hlt)] at hi
      by_cases hib : b = i
      · subst hib; rw [List.getElem?_set_self hbl] at hi; exact .inr (.inl ⟨rfl, (Option.some.inj hi).symm⟩)
      · rw [List.getElem?_set_ne hib] at hi; exact .inl ⟨fun e => hib e.symm, hlt, hi⟩
    · subst hlt
      rw [List.getElem?_append_right (by simp)] at hi
      simp at hi
      exact .inr (.inr ⟨rfl, hi.symm⟩)
    · rw [List.getElem?_eq_none (by simp; omega)] at hi; cases hi
  have hsep : ∀ i B, i ≠ b → H[i]? = some B → B.lv = true → ρ i ≠ ρ b := fun i B hne hi hl he => h.rel.sep b i _ B hb hi (fun e => hne e.symm) rfl hl he.symm
  refine ⟨⟨?_, ?_⟩, h.os, h.tape, h.out, by rw [putBlock_size]; exact h.size, ?_, fun k => by rw [bsz_putBlock hc hz]; exact h.sz k, ?_, ?_, ?_⟩
  · intro i B hi
    rcases get i B hi with ⟨h1, h2, h3⟩ | ⟨rfl, rfl⟩ | ⟨rfl, rfl⟩
    · rw [upd_ne (by omega)]
      by_cases hlv : B.lv = true
      · rw [putBlock_other (hsep i B h1 h3 hlv)]
        exact (h.rel.blk i B h3).mono hE
      · cases B <;> first | trivial | (exact absurd rfl hlv)
    · trivial
    · rw [upd_same, putBlock_same hc]
      exact ⟨hl', c', T, fz, rfl, hp, fun _ => hfz⟩
  · intro i j A B hi hj hne hw hl
    rcases get i A hi with ⟨h1, h2, h3⟩ | ⟨rfl, rfl⟩ | ⟨rfl, rfl⟩ <;> rcases get j B hj with ⟨k1, k2, k3⟩ | ⟨rfl, rfl⟩ | ⟨rfl, rfl⟩
    · rw [upd_ne (by omega), upd_ne (by omega)]; exact h.rel.sep i j A B h3 k3 hne hw hl
    · cases hl
    · rw [upd_ne (by omega), upd_same]; exact hsep i A h1 h3 (by cases A <;> first | rfl | cases hw)
    · cases hw
    · cases hw
    · cases hw
    · rw [upd_same, upd_ne (by omega)]; exact fun e => hsep j B k1 k3 hl e.symm
    · cases hl
    · exact absurd rfl hne
  · intro k hk hn
    rw [putBlock_other]
    · exact h.old k hk hn
    · intro he
      have := h.new b hm hbl
      omega
  · intro i hi; rw [upd_ne (by omega)]; exact h.pre i hi
  · intro i h1 h2
    by_cases hi : i = H.length
    · subst hi
      rw [upd_same]
      exact h.new b hm hbl
    · rw [upd_ne hi]; exact h.new i h1 (by simp at h2; omega)
  · rw [shs_append, hshs]; exact h.sh.trans (List.prefix_append _ _)
end
end Ink
