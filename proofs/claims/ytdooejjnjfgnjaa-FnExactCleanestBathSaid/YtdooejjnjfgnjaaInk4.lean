/- Loads, stores, new variables, addresses: what each does to the abstract state. No conditions. -/
import Derived.Test.YtdooejjnjfgnjaaInk3
set_option linter.unusedVariables false
set_option linter.unusedSimpArgs false
namespace Ink
open Go

def Blk.get? : Blk → List Nat → Option DV
  | .data _ v, p => some (v.get p)
  | .seq _ _ l, i :: p => (l[i]?).map fun y => y.get p
  | _, _ => none

def Blk.set? : Blk → List Nat → DV → Option Blk
  | .data σ v, p, x => some (.data σ (v.set p x))
  | .seq true e l, i :: p, x => (l[i]?).map fun y => .seq true e (l.set i (y.set p x))
  | _, _, _ => none

theorem flatMap_at {e : Sh} : ∀ {l : List DV} {i : Nat} {y : DV}, (∀ x ∈ l, Has e x) → l[i]? = some y → LiesAt (l.flatMap (flat e)) (i * e.size) (flat e y)
  | [], _, _, _, hi => by simp at hi
  | z :: l, 0, y, _, hi => by
    simp at hi; subst hi
    simp only [List.flatMap_cons, Nat.zero_mul]
    exact (LiesAt.self _).post
  | z :: l, i + 1, y, h, hi => by
    have := (flatMap_at (e := e) (l := l) (i := i) (y := y) (fun x hx => h x (List.mem_cons_of_mem _ hx)) (by simpa using hi)).pre (a := flat e z)
    rw [flat_length (h z (by simp))] at this
    rw [List.flatMap_cons, show (i + 1) * e.size = e.size + i * e.size by rw [Nat.succ_mul]; omega]
    exact this

theorem flatMap_len {e : Sh} : ∀ {l : List DV}, (∀ x ∈ l, Has e x) → (l.flatMap (flat e)).length = l.length * e.size
  | [], _ => by simp
  | z :: l, h => by
    rw [List.flatMap_cons, List.length_append, flat_length (h z (by simp)), flatMap_len fun x hx => h x (by simp [hx]), List.length_cons, Nat.succ_mul]
    omega

theorem lay_length {α : Type} {l xs : List α} {o : Nat} (h : o + xs.length ≤ l.length) : (lay l o xs).length = l.length := by
  simp [lay]; omega

theorem lay_mid {α : Type} {a m b ys : List α} (h : ys.length = m.length) : lay (a ++ m ++ b) a.length ys = a ++ ys ++ b := by
  unfold lay
  rw [h]
  simp [List.drop_append]

theorem lay_lay {α : Type} {l m xs : List α} {k o : Nat} (h : LiesAt l k m) (ho : o + xs.length ≤ m.length) : lay l k (lay m o xs) = lay l (k + o) xs := by
  obtain ⟨a, b, rfl, rfl⟩ := h
  rw [lay_mid (lay_length ho)]
  have : lay (a ++ (m ++ b)) (a.length + o) xs = a ++ lay (m ++ b) o xs := lay_pre
  rw [← List.append_assoc] at this
  rw [this, lay_post ho, List.append_assoc]

theorem flatMap_set {e : Sh} {l : List DV} {i : Nat} {y z : DV} (h : ∀ x ∈ l, Has e x) (hz : Has e z) (hi : l[i]? = some y) :
    (l.set i z).flatMap (flat e) = lay (l.flatMap (flat e)) (i * e.size) (flat e z) := by
  induction l generalizing i with
  | nil => simp at hi
  | cons x l ih =>
    cases i with
    | zero =>
      simp only [List.set_cons_zero, List.flatMap_cons, Nat.zero_mul]
      have := lay_mid (a := []) (m := flat e x) (b := l.flatMap (flat e)) (ys := flat e z) (by rw [flat_length hz, flat_length (h x (by simp))])
      simpa using this.symm
    | succ i =>
      simp only [List.set_cons_succ, List.flatMap_cons]
      rw [ih (fun x hx => h x (by simp [hx])) (by simpa using hi)]
      have := lay_pre (a := flat e x) (l := l.flatMap (flat e)) (o := i * e.size) (xs := flat e z)
      rw [flat_length (h x (by simp))] at this
      rw [← this, show (i + 1) * e.size = e.size + i * e.size by rw [Nat.succ_mul]; omega]

theorem LiesAt.upto {α : Type} {l l' xs : List α} {o : Nat} (h : LiesAt l o xs) (hp : l <+: l') : LiesAt l' o xs := by
  obtain ⟨t, rfl⟩ := hp; exact h.post
theorem LiesAt.trans {α : Type} {l m xs : List α} {k o : Nat} (h : LiesAt l k m) (h' : LiesAt m o xs) : LiesAt l (k + o) xs := by
  obtain ⟨a, b, rfl, rfl⟩ := h
  have := (h'.post (b := b)).pre (a := a)
  rwa [← List.append_assoc] at this

theorem blk_get {ρ S w B p o τ v} {ob : Option Obj} (r : RB ρ S w B ob) (hp : B.sh.at? p = some (o, τ)) (hv : B.get? p = some v) :
    ∃ c T fz, ob = some (.cells c T fz) ∧ Has τ v ∧ LiesAt c.toList o (flat τ v) := by
  cases B with
  | data σ u =>
    obtain ⟨h, T, rfl⟩ := r
    simp only [Blk.get?, Option.some.injEq] at hv
    subst hv
    obtain ⟨h1, h2, _⟩ := get_flat h hp
    exact ⟨_, T, _, rfl, h1, h2⟩
  | seq wr e l =>
    obtain ⟨h, c, T, fz, rfl, hc, _⟩ := r
    cases p with
    | nil => simp [Blk.get?] at hv
    | cons i p =>
      simp only [Blk.get?, Option.map_eq_some_iff] at hv
      obtain ⟨y, hy, rfl⟩ := hv
      simp only [Blk.sh, BSh.at?, Option.map_eq_some_iff] at hp
      obtain ⟨⟨o', τ'⟩, hp, heq⟩ := hp
      cases heq
      obtain ⟨h1, h2, _⟩ := get_flat (h y (List.mem_of_getElem? hy)) hp
      exact ⟨_, T, _, rfl, h1, ((flatMap_at h hy).upto hc).trans h2⟩
  | ref x => simp [Blk.get?] at hv
  | dead s => simp [Blk.get?] at hv

theorem blk_set {ρ S w B B' p o τ x} {ob : Option Obj} (r : RB ρ S w B ob) (hp : B.sh.at? p = some (o, τ)) (hx : Has τ x) (hs : B.set? p x = some B') :
    ∃ c T, ob = some (.cells c T (0, 0)) ∧ o + (flat τ x).length ≤ c.size ∧ B'.sh = B.sh ∧ B.wr = true ∧ B'.wr = true ∧ ∀ ρ' S' w', RB ρ' S' w' B' (some (.cells (layA c o (flat τ x)) T (0, 0))) := by
  cases B with
  | data σ u =>
    obtain ⟨h, T, rfl⟩ := r
    simp only [Blk.set?, Option.some.injEq] at hs
    subst hs
    obtain ⟨h1, h2⟩ := set_flat h hp hx
    have h3 := (get_flat h hp).2.2
    refine ⟨_, T, rfl, by simp [flat_length hx, flat_length h]; exact h3, rfl, rfl, rfl, fun ρ' S' w' => ⟨h1, T, ?_⟩⟩
    rw [h2]; rfl
  | seq wr e l =>
    obtain ⟨h, c, T, fz, rfl, hc, hz⟩ := r
    cases wr with
    | false => simp [Blk.set?] at hs
    | true =>
    have hz := hz rfl
    subst hz
    cases p with
    | nil => simp [Blk.set?] at hs
    | cons i p =>
      simp only [Blk.set?, Option.map_eq_some_iff] at hs
      obtain ⟨y, hy, rfl⟩ := hs
      simp only [Blk.sh, BSh.at?, Option.map_eq_some_iff] at hp
      obtain ⟨⟨o', τ'⟩, hp, heq⟩ := hp
      obtain ⟨rfl, rfl⟩ := Prod.mk.inj heq
      dsimp only at hx ⊢
      have hyh := h y (List.mem_of_getElem? hy)
      obtain ⟨h1, h2⟩ := set_flat hyh hp hx
      have h3 := (get_flat hyh hp).2.2
      have hat := flatMap_at h hy
      have hle : o' + (flat τ' x).length ≤ (flat e y).length := by rw [flat_length hx, flat_length hyh]; exact h3
      have hcat : i * e.size + o' + (flat τ' x).length ≤ (l.flatMap (flat e)).length := by
        obtain ⟨a, b, h4, h5⟩ := hat
        have := congrArg List.length h4
        simp only [List.length_append] at this
        omega
      obtain ⟨t, ht⟩ := hc
      have hcl : (l.flatMap (flat e)).length ≤ c.size := by
        have := congrArg List.length ht
        simp only [List.length_append, Array.length_toList] at this
        omega
      refine ⟨c, T, rfl, by omega, rfl, rfl, rfl, fun ρ' S' w' => ⟨?_, _, T, _, rfl, ?_, fun _ => rfl⟩⟩
      · intro z hz
        rcases List.mem_or_eq_of_mem_set hz with hz | rfl
        · exact h z hz
        · exact h1
      · rw [flatMap_set h h1 hy, h2, lay_lay hat hle]
        simp only [layA]
        rw [← ht, lay_post hcat]
        exact List.prefix_append _ _
  | ref y => simp [Blk.set?] at hs
  | dead s => simp [Blk.set?] at hs

theorem run_loadVar {P : Program} {w : World} {g o : Nat} {c : Array Value} {T : TypeId} {fz : Nat × Nat} {τ : Sh} {t : TypeId} {v : DV} (hg : w.heap[g]? = some (.cells c T fz)) (ht : TyOk P τ t)
    (hv : Has τ v) (hl : LiesAt c.toList o (flat τ v)) : (loadVar t ⟨g, o, none⟩).run P w = .ok (enc τ v) w := by
  obtain ⟨a, b, h1, rfl⟩ := hl
  have hcell : ∀ j x, (flat τ v)[j]? = some x → w.cell? ((⟨g, a.length, none⟩ : Addr).add j) = some x := fun j x hx => by
    rw [add_addr, cell_of_row w g _ c T fz hg, ← Array.getElem?_toList, h1, List.append_assoc, List.getElem?_append_right (by omega), List.getElem?_append_left (by simpa using get_lt hx)]
    simpa using hx
  unfold loadVar
  rw [Sem.run_bind, ht.isAgg w]
  simp only [Result.andThen_ok]
  cases ha : τ.agg with
  | true =>
    have := run_loadCells_list (P := P) w ⟨g, a.length, none⟩ (flat τ v) hcell
    rw [flat_length hv] at this
    simp [Sem.run_bind, ht.sizeOf w, this, enc, ha]
  | false =>
    obtain ⟨x, hx⟩ := flat_one hv ha
    have hc := hcell 0 x (by simp [hx])
    rw [add_addr] at hc
    simp only [Nat.add_zero] at hc
    simp [hc, enc, ha, hx]

section ops
variable {P : Program} {G : Ent} {o : Oper} {look : Tmp → AV} {H : Heap}

theorem step_load {t : TypeId} {x : Operand} {b : Nat} {p : List Nat} {τ : Sh} {B : Blk} {v : DV} (ho : o.op = .load t x) (hx : ev look x = .ptr b p τ) (ht : TyOk P τ t) (hB : H[b]? = some B)
    (hv : B.get? p = some v) : OpStep P G o look H (ofD τ v) H :=
  OpStep.value fun ρ a w hi he => by
    have hr := he.ev (x := x) (by simp [ho, Op.operands])
    rw [hx] at hr
    obtain ⟨s, off, h1, h2, h3⟩ := hr
    have : s = B.sh := by rw [shs_get hB] at h1; exact (Option.some.inj h1).symm
    subst this
    obtain ⟨c, T, fz, hc, hh, hl⟩ := blk_get (hi.rel.blk b B hB) h2 hv
    refine ⟨enc τ v, ?_, Rv_ofD hh⟩
    rw [execOp.eq_1]
    simp only [ho, h3, Instr.loadAt, Instr.sureAddr, Sem.run_bind, Sem.run_pure, Result.andThen_ok, run_loadVar hc ht hh hl]

theorem step_loadref {t : TypeId} {x : Operand} {b : Nat} {v z : AV} (ho : o.op = .load t x) (hx : ev look x = .rptr b) (ht : RefOk P t z) (hB : H[b]? = some (.ref v)) : OpStep P G o look H v H :=
  OpStep.value fun ρ a w hi he => by
    have hr := he.ev (x := x) (by simp [ho, Op.operands])
    rw [hx] at hr
    obtain ⟨_, h3⟩ := hr
    obtain ⟨u, T, hc, hh⟩ := hi.rel.blk b _ hB
    refine ⟨u, ?_, hh⟩
    obtain ⟨d, i, hd, hi1, hi2, _, hdd⟩ := ht
    have hcell : w.cell? ⟨ρ b, 0, none⟩ = some u := by rw [cell_of_row w _ _ _ _ _ hc]; rfl
    have hagg : (isAgg t).run P w = .ok false w := by
      unfold isAgg
      rw [Sem.run_bind, run_underlying hd w]
      cases d <;> first | rfl | cases hdd
    rw [execOp.eq_1]
    simp only [ho, h3, Instr.loadAt, Instr.sureAddr, Sem.run_bind, Sem.run_pure, Result.andThen_ok, loadVar, hagg]
    simp [hcell]

/-- A store: the heap's block b gets the content B'. -/
theorem step_store {t : TypeId} {x y : Operand} {b : Nat} {p : List Nat} {τ : Sh} {B B' : Blk} {v : DV} (ho : o.op = .store t x y) (hx : ev look x = .ptr b p τ) (ht : TyOk P τ t)
    (hy : IsD (ev look y) τ v) (hm : G.may b) (hB : H[b]? = some B) (hs : B.set? p v = some B') : OpStep P G o look H .junk (H.set b B') := by
  intro ρ a w K Q hi he hk
  have hrx := he.ev (x := x) (by simp [ho, Op.operands])
  have hry := he.ev (x := y) (by simp [ho, Op.operands])
  rw [hx] at hrx
  obtain ⟨s, off, h1, h2, h3⟩ := hrx
  have : s = B.sh := by rw [shs_get hB] at h1; exact (Option.some.inj h1).symm
  subst this
  obtain ⟨hh, h4⟩ := Rv_isD hy hry
  obtain ⟨c, T, hc, hle, hsh, hw, hw', hRB⟩ := blk_set (hi.rel.blk b B hB) h2 hh hs
  have hcells := enc_cells hh
  have hrun : (execOp a.eval o).run P w = .ok .skip (World.putBlock w (ρ b) (layA c off (flat τ v))) := by
    rw [execOp.eq_1]
    have hst := run_storeCells (P := P) (flat τ v) w (ρ b) off 0 c T hc (by simpa using hle) oneCell_flat
    simp only [Nat.add_zero] at hst
    simp only [ho, h3, h4, Instr.storeAt, Instr.sureAddr, Sem.run_bind, Sem.run_pure, Result.andThen_ok, storeVar, ht.sizeOf w, ne_eq, hcells, List.size_toArray, flat_length hh, not_true_eq_false, if_false, hst]
  have hz : (layA c off (flat τ v)).size = c.size := by
    simp only [layA, List.size_toArray]
    rw [lay_length (by simpa using hle)]
    simp
  unfold Oper.wp
  rw [hrun]
  have hE := Ext.put (ρ := ρ) (S := shs H) (c' := layA c off (flat τ v)) hc hz
  refine hk undef _ ρ (hi.put hm hB hw hsh hw' hc hz (hRB _ _ _)) ?_ trivial
  rw [shs_set hB hsh]
  exact hE

def AV.oneB : AV → Bool
  | .agg _ _ => false
  | .tup _ => false
  | .junk => false
  | _ => true

theorem oneCell_rv {ρ S w} {v : AV} {u : Value} (h : Rv ρ S w v u) (hv : v.oneB = true) : u.oneCell' = true := by
  cases v <;> simp only [Rv, AV.oneB] at h hv <;> first | (cases hv; done) | (subst h; rfl) | skip
  · obtain ⟨_, _, _, _, rfl⟩ := h; rfl
  · obtain ⟨_, rfl⟩ := h; rfl
  · obtain ⟨_, _, ⟨_, rfl, _⟩ | ⟨_, _, rfl⟩⟩ := h <;> rfl
  · obtain ⟨_, _, rfl, _⟩ := h; rfl

theorem step_storeref {t : TypeId} {x y : Operand} {b : Nat} {z v : AV} (ho : o.op = .store t x y) (hx : ev look x = .rptr b) (ht : RefOk P t z)
    (hv : (ev look y).oneB = true) (hm : G.may b) (hB : H[b]? = some (.ref v)) : OpStep P G o look H .junk (H.set b (.ref (ev look y))) := by
  intro ρ a w K Q hi he hk
  have hrx := he.ev (x := x) (by simp [ho, Op.operands])
  have hry := he.ev (x := y) (by simp [ho, Op.operands])
  rw [hx] at hrx
  obtain ⟨_, h3⟩ := hrx
  obtain ⟨u, T, hc, hh⟩ := hi.rel.blk b _ hB
  obtain ⟨d, i, hd, hi1, hi2, _, hdd⟩ := ht
  have hone : (a.eval y).oneCell' = true := oneCell_rv hry hv
  have hcs : (a.eval y).cells = #[a.eval y] := by cases hq : a.eval y <;> simp_all [Value.cells, Value.oneCell']
  have hrun : (execOp a.eval o).run P w = .ok .skip (World.putBlock w (ρ b) #[a.eval y]) := by
    rw [execOp.eq_1]
    have hst := run_storeCells (P := P) [a.eval y] w (ρ b) 0 0 _ T hc (by simp) (by simpa using hone)
    have hso : (Go.sizeOf t).run P w = .ok 1 w := by simp [Go.sizeOf, typeInfo, hi1, hi2]
    simp only [Nat.add_zero] at hst
    simp only [ho, h3, hcs, Instr.storeAt, Instr.sureAddr, Sem.run_bind, Sem.run_pure, Result.andThen_ok, storeVar, hso, ne_eq, if_false]
    simp [hst, layA, lay]
  unfold Oper.wp
  rw [hrun]
  have hz : (#[a.eval y] : Array Value).size = (#[u] : Array Value).size := rfl
  have hE := Ext.put (ρ := ρ) (S := shs H) (c' := #[a.eval y]) hc hz
  refine hk undef _ ρ (hi.put (A := .ref v) (B := .ref (ev look y)) hm hB rfl rfl rfl hc hz ⟨_, T, rfl, hry.mono hE⟩) ?_ trivial
  rw [shs_set (B := .ref (ev look y)) hB rfl]
  exact hE

theorem RB_new {ρ S w τ v T} (h : Has τ v) : RB ρ S w (.data τ v) (some (.cells (flat τ v).toArray T (0, 0))) := ⟨h, T, rfl⟩

theorem Rv_new {ρ : Nat → Nat} {H : Heap} {w w' : World} {τ : Sh} {v : DV} : Rv (upd ρ H.length w.heap.size) (shs (H ++ [.data τ v])) w' (.ptr H.length [] τ) (.pointer (some ⟨w.heap.size, 0, none⟩)) :=
  ⟨.data τ, 0, by simp [shs, Blk.sh], by cases τ <;> rfl, by rw [upd_same]⟩

theorem step_alloc {t : TypeId} {τ : Sh} (ho : o.op = .alloc t) (ht : TyOk P τ t) : OpStep P G o look H (.ptr H.length [] τ) (H ++ [.data τ τ.zero]) :=
  OpStep.made fun ρ a w hi he => by
    refine ⟨.pointer (some ⟨w.heap.size, 0, none⟩), .cells (flat τ τ.zero).toArray t (0, 0), ?_, RB_new (Has_zero τ), Rv_new⟩
    rw [execOp.eq_1]
    simp only [ho, Instr.alloc, Sem.run_bind, ht.zero w, Result.andThen_ok, newVar, newRow, enc_cells (Has_zero τ), run_newObj, Sem.run_pure]
    rfl

theorem step_allocref {t : TypeId} {z : AV} (ho : o.op = .alloc t) (ht : RefOk P t z) : OpStep P G o look H (.rptr H.length) (H ++ [.ref z]) :=
  OpStep.made fun ρ a w hi he => by
    obtain ⟨d, i, hd, hi1, hi2, ⟨x, hx, hxo, hxr⟩, hdd⟩ := ht
    refine ⟨.pointer (some ⟨w.heap.size, 0, none⟩), .cells #[x] t (0, 0), ?_, ⟨x, t, rfl, hxr _ _ _⟩, ⟨by simp [shs, Blk.sh], by rw [upd_same]⟩⟩
    have hz : (zeroValue t).run P w = .ok x w := by simp [zeroValue, typeInfo, hi1, hx]
    have hcs : x.cells = #[x] := by cases x <;> simp_all [Value.cells, Value.oneCell']
    rw [execOp.eq_1]
    simp only [ho, Instr.alloc, Sem.run_bind, hz, Result.andThen_ok, newVar, newRow, hcs, run_newObj, Sem.run_pure]
    rfl

theorem step_box {t : TypeId} {x : Operand} {τ : Sh} {v : DV} (ho : o.op = .box t x) (hx : IsD (ev look x) τ v) : OpStep P G o look H (.ptr H.length [] τ) (H ++ [.data τ v]) :=
  OpStep.made fun ρ a w hi he => by
    obtain ⟨hh, h4⟩ := Rv_isD hx (he.ev (x := x) (by simp [ho, Op.operands]))
    refine ⟨.pointer (some ⟨w.heap.size, 0, none⟩), .cells (flat τ v).toArray t (0, 0), ?_, RB_new hh, Rv_new⟩
    rw [execOp.eq_1]
    simp only [ho, h4, Instr.box, Sem.run_bind, Result.andThen_ok, newVar, newRow, enc_cells hh, run_newObj, Sem.run_pure]
    rfl

theorem step_boxref {t : TypeId} {x : Operand} (ho : o.op = .box t x) (hx : (ev look x).oneB = true) : OpStep P G o look H (.rptr H.length) (H ++ [.ref (ev look x)]) :=
  OpStep.made fun ρ a w hi he => by
    have hr := he.ev (x := x) (by simp [ho, Op.operands])
    have hone : (a.eval x).oneCell' = true := oneCell_rv hr hx
    have hcs : (a.eval x).cells = #[a.eval x] := by cases hq : a.eval x <;> simp_all [Value.cells, Value.oneCell']
    refine ⟨.pointer (some ⟨w.heap.size, 0, none⟩), .cells #[a.eval x] t (0, 0), ?_, ⟨_, t, rfl, hr.mono (Ext.push _ _)⟩, ⟨by simp [shs, Blk.sh], by rw [upd_same]⟩⟩
    rw [execOp.eq_1]
    simp only [ho, Instr.box, Sem.run_bind, Result.andThen_ok, newVar, newRow, hcs, run_newObj, Sem.run_pure]
    rfl

theorem step_nilCheck {x : Operand} (ho : o.op = .nilCheck x) (hx : (∃ b p τ, ev look x = .ptr b p τ) ∨ (∃ b, ev look x = .rptr b) ∨ (∃ f c d, ev look x = .fn f c d)) : OpStep P G o look H (ev look x) H :=
  OpStep.value fun ρ a w hi he => by
    have hr := he.ev (x := x) (by simp [ho, Op.operands])
    refine ⟨a.eval x, ?_, hr⟩
    rw [execOp.eq_1]
    rcases hx with ⟨b, p, τ, hx⟩ | ⟨b, hx⟩ | ⟨f, c, d, hx⟩
    · rw [hx] at hr; obtain ⟨_, _, _, _, h⟩ := hr; simp [ho, h]
    · rw [hx] at hr; obtain ⟨_, h⟩ := hr; simp [ho, h]
    · rw [hx] at hr; obtain ⟨_, _, h, _⟩ := hr; simp [ho, h]

theorem step_fieldAddr {t : TypeId} {x : Operand} {f b : Nat} {p : List Nat} {τ s : Sh} (ho : o.op = .fieldAddr t x f) (hx : ev look x = .ptr b p τ) (ht : TyOk P τ t) (hn : ∀ n e, τ ≠ .arr n e)
    (hf : τ.fld f = some s) : OpStep P G o look H (.ptr b (p ++ [f]) s) H :=
  OpStep.value fun ρ a w hi he => by
    have hr := he.ev (x := x) (by simp [ho, Op.operands])
    rw [hx] at hr
    obtain ⟨sh, off, h1, h2, h3⟩ := hr
    obtain ⟨fs, fd, fo, k1, k2, k3, k4, k5, k6⟩ := ht.field hn hf
    refine ⟨.pointer (some ⟨ρ b, off + fo, none⟩), ?_, ⟨sh, off + fo, h1, ?_, rfl⟩⟩
    · rw [execOp.eq_1]
      simp [ho, h3, Instr.fieldAt, run_underlying k1, k2, Instr.sureAddr, fieldPlace, k5.sizeOf w, k6, add_addr, k4]
    · cases sh with
      | data σ => exact at_snoc h2 k3
      | seq e =>
        cases p with
        | nil => simp [BSh.at?] at h2
        | cons i p =>
          simp only [BSh.at?, Option.map_eq_some_iff] at h2
          obtain ⟨⟨q, r⟩, h2, heq⟩ := h2
          cases heq
          have := at_snoc h2 k3
          simp [BSh.at?, this, Nat.add_assoc]
      | ref => simp [BSh.at?] at h2
end ops
end Ink
