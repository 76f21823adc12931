/- Composite literals, make of a slice, '==' on data: what each does to the abstract state. No conditions. -/
import Derived.Test.YtdooejjnjfgnjaaInk9
import Derived.IntWalk
import Derived.Laws.MakeOwn
set_option linter.unusedVariables false
set_option linter.unusedSimpArgs false
namespace Ink
open Go

theorem foldl_lay {off : Nat} : ∀ (vs : List Value) (k : Nat) (c : Array Value), off + k + vs.length ≤ c.size →
    (vs.zipIdx k).foldl (fun cs (x : Value × Nat) => cs.setIfInBounds (off + x.2) x.1) c = layA c (off + k) vs
  | [], k, c, _ => by simp [layA, lay]
  | v :: vs, k, c, h => by
    simp only [List.length_cons] at h
    rw [List.zipIdx_cons, List.foldl_cons, foldl_lay vs (k + 1) _ (by simp; omega)]
    unfold layA lay
    apply Array.ext'
    simp only [List.length_cons]
    rw [Array.toList_setIfInBounds]
    have hlt : off + k < c.toList.length := by simp; omega
    have e1 : (c.toList.set (off + k) v).take (off + (k + 1)) = c.toList.take (off + k) ++ [v] := by
      rw [← Nat.add_assoc, List.take_succ_eq_append_getElem (by simpa using hlt)]
      simp [List.take_set_of_le]
    have e2 : (c.toList.set (off + k) v).drop (off + (k + 1) + vs.length) = c.toList.drop (off + k + (vs.length + 1)) := by
      rw [List.drop_set_of_lt (by omega)]
      congr 1
      omega
    rw [e1, e2]
    simp

theorem fill_one {place : Nat → Option (Nat × Nat)} {c : Array Value} {i off : Nat} {τ : Sh} {u : DV} {rest : List (Nat × Value)} (hp : place i = some (off, τ.size)) (hu : Has τ u) (hc : off + τ.size ≤ c.size) :
    Instr.fill place c ((i, enc τ u) :: rest) = Instr.fill place (layA c off (flat τ u)) rest := by
  have hs : (enc τ u).cells.size = τ.size := by rw [enc_cells hu]; simp [flat_length hu]
  simp only [Instr.fill, hp]
  rw [if_neg (by rw [hs]; simp; omega)]
  congr 1
  rw [enc_cells hu]
  have := foldl_lay (off := off) (flat τ u) 0 c (by rw [flat_length hu]; omega)
  simp only [Nat.add_zero] at this
  rw [← this]
  simp [← Array.foldl_toList]

/-- Parts laid into data. -/
inductive Fills (τ : Sh) : DV → List (Nat × AV) → DV → Prop where
  | nil (v) : Fills τ v [] v
  | cons {v v' i x s u r} (h : IsD x s u) (hf : τ.fld i = some s) (k : Fills τ (v.set [i] u) r v') : Fills τ v ((i, x) :: r) v'

theorem fills_run {ρ S w} {τ : Sh} {place : Nat → Option (Nat × Nat)} (hp : ∀ i s, τ.fld i = some s → ∃ o, τ.at? [i] = some (o, s) ∧ place i = some (o, s.size)) :
    ∀ {v v' : DV} {ps : List (Nat × AV)} {vs : List (Nat × Value)}, Fills τ v ps v' → Has τ v → ps.map (·.1) = vs.map (·.1) → Rvs ρ S w (ps.map (·.2)) (vs.map (·.2)) →
      Has τ v' ∧ Instr.fill place (flat τ v).toArray vs = some (flat τ v').toArray := by
  intro v v' ps vs h
  induction h generalizing vs with
  | nil v =>
    intro hv h1 _
    cases vs with
    | nil => exact ⟨hv, rfl⟩
    | cons _ _ => simp at h1
  | @cons v v' i x s u r hd hf k ih =>
    intro hv h1 h2
    cases vs with
    | nil => simp at h1
    | cons y vs =>
      obtain ⟨j, y⟩ := y
      simp only [List.map_cons, List.cons.injEq] at h1
      obtain ⟨rfl, h1⟩ := h1
      simp only [List.map_cons] at h2
      obtain ⟨h3, h4⟩ := h2
      obtain ⟨hu, rfl⟩ := Rv_isD hd h3
      obtain ⟨off, ha, hpl⟩ := hp _ _ hf
      obtain ⟨h5, h6⟩ := set_flat hv ha hu
      have h7 := (get_flat hv ha).2.2
      rw [fill_one hpl hu (by simp [flat_length hv]; exact h7)]
      have h8 := ih h5 h1 h4
      rw [h6] at h8
      exact h8

section
variable {P : Program} {G : Ent} {o : Oper} {look : Tmp → AV} {H : Heap}

theorem places_of {b : Sh} : ∀ {r : List Field} {off : Nat}, FldOk P b r off → ∃ pl, r.mapM (fun f => (P.info? f.type).map fun i => (f.offset, i.size)) = some pl ∧ pl.length = r.length ∧
    ∀ (i : Nat) s, b.fld i = some s → ∃ o', b.at? [i] = some (o', s) ∧ pl[i]? = some (off + o', s.size) := by
  induction b with
  | cons a b _ ihb =>
    intro r off h
    cases r with
    | nil => simp [FldOk] at h
    | cons f r =>
      simp only [FldOk] at h
      obtain ⟨h1, h2, h3, h4⟩ := h
      obtain ⟨pl, k1, k2, k3⟩ := ihb h4
      obtain ⟨ti, t1, t2, _⟩ := h3.info
      refine ⟨(f.offset, ti.size) :: pl, by simp [t1, k1], by simp [k2], fun i s hs => ?_⟩
      cases i with
      | zero =>
        simp [Sh.fld, Sh.at?] at hs
        subst hs
        exact ⟨0, by simp [Sh.at?], by simp [h1, t2]⟩
      | succ i =>
        have hs' : b.fld i = some s := by simp only [Sh.fld, Sh.at?, Option.map_map] at hs ⊢; exact hs
        obtain ⟨o', k4, k5⟩ := k3 i s hs'
        exact ⟨a.size + o', by simp [Sh.at?, k4], by simp [k5, Nat.add_assoc]⟩
  | unit =>
    intro r off h
    cases r with
    | nil => exact ⟨[], rfl, rfl, fun i s hs => by simp [Sh.fld, Sh.at?] at hs⟩
    | cons _ _ => simp [FldOk] at h
  | _ => intro r off h; cases r <;> simp [FldOk] at h

theorem step_build {t : TypeId} {parts : Array (Nat × Operand)} {τ : Sh} {v : DV} (ho : o.op = .build t parts) (ht : TyOk P τ t) (ha : τ.agg = true) (hf : Fills τ τ.zero (parts.toList.map fun p => (p.1, ev look p.2)) v) :
    OpStep P G o look H (.agg τ v) H :=
  OpStep.value fun ρ a w hi he => by
    have hvs : Rvs ρ (shs H) w ((parts.toList.map fun p => (p.1, ev look p.2)).map (·.2)) ((parts.toList.map fun p => (p.1, a.eval p.2)).map (·.2)) := by
      have := Rvs_map (look := look) (ρ := ρ) (S := shs H) (w := w) (a := a) (l := parts.toList.map (·.2)) fun x hx => he.ev (by simp [ho, Op.operands]; simpa using hx)
      simpa [List.map_map, Function.comp_def] using this
    have hz : (enc τ τ.zero).cells = (flat τ τ.zero).toArray := enc_cells (Has_zero τ)
    have hmap : (parts.map fun (x : Nat × Operand) => match x with | (i, x) => (i, a.eval x)).toList = parts.toList.map fun p => (p.1, a.eval p.2) := by simp
    have key : ∀ place, (∀ i s, τ.fld i = some s → ∃ o, τ.at? [i] = some (o, s) ∧ place i = some (o, s.size)) → Has τ v ∧ Instr.fill place (flat τ τ.zero).toArray (parts.toList.map fun p => (p.1, a.eval p.2)) = some (flat τ v).toArray :=
      fun place hp => fills_run hp hf (Has_zero τ) (by simp [List.map_map, Function.comp_def]) hvs
    obtain ⟨it, hit, his, hiz, _⟩ := ht.info
    have fin : ∀ place, (Has τ v ∧ Instr.fill place (flat τ τ.zero).toArray (parts.toList.map fun p => (p.1, a.eval p.2)) = some (flat τ v).toArray) →
        P.built t (parts.toList.map fun p => (p.1, a.eval p.2)) = Instr.fill place (enc τ τ.zero).cells (parts.toList.map fun p => (p.1, a.eval p.2)) → ∃ x, (execOp a.eval o).run P w = .ok (.value x) w ∧ Rv ρ (shs H) w (.agg τ v) x := by
      intro place h hb
      refine ⟨.agg (flat τ v).toArray, ?_, ⟨ha, h.1, rfl⟩⟩
      have hr := run_build (P := P) w t (parts.map fun (x : Nat × Operand) => match x with | (i, x) => (i, a.eval x)) (flat τ v).toArray (by rw [hmap, hb, hz]; exact h.2)
      rw [execOp.eq_1]
      simp only [ho, Sem.run_bind, hr, Result.andThen_ok, Sem.run_pure]
    cases τ with
    | int k => cases ha
    | bool => cases ha
    | str => cases ha
    | unit =>
      simp only [TyOk] at ht
      refine fin (fun i => (#[] : Array (Nat × Nat))[i]?) (key _ fun i s hs => by simp [Sh.fld, Sh.at?] at hs) ?_
      simp [Program.built, hit, ht.1, hiz]
    | arr n e =>
      have ht' := ht
      simp only [TyOk] at ht
      obtain ⟨⟨et, hu, hte⟩, _⟩ := ht
      obtain ⟨ie, hie, hies, _⟩ := hte.info
      refine fin (fun i => some (i * e.size, e.size)) (key _ fun i s hs => ?_) ?_
      · simp only [Sh.fld, Option.map_eq_some_iff] at hs
        obtain ⟨⟨o', s'⟩, h1, h2⟩ := hs
        simp only at h2
        subst h2
        refine ⟨o', h1, ?_⟩
        simp only [Sh.at?] at h1
        split at h1
        · simp at h1; obtain ⟨rfl, rfl⟩ := h1; simp
        · cases h1
      · simp [Program.built, hit, hu, hiz, hie, hies]
    | cons x y =>
      have ht' := ht
      simp only [TyOk] at ht
      obtain ⟨⟨fs, f, r, h1, h2, h3, h4, h5, h6⟩, _⟩ := ht
      have hfo : FldOk P (.cons x y) fs.toList 0 := by rw [h2]; simp only [FldOk]; exact ⟨h3, h4, h5, by simpa using h6⟩
      obtain ⟨pl, k1, k2, k3⟩ := places_of hfo
      refine fin (fun i => pl.toArray[i]?) (key _ fun i s hs => ?_) ?_
      · obtain ⟨o', k4, k5⟩ := k3 i s hs
        exact ⟨o', k4, by simpa using k5⟩
      · simp only [Program.built, hit, h1, hiz, k1]

/-- Parts laid into a list. -/
inductive FillsL (e : Sh) : List DV → List (Nat × AV) → List DV → Prop where
  | nil (l) : FillsL e l [] l
  | cons {l l' i x u r} (h : IsD x e u) (hi : i < l.length) (k : FillsL e (l.set i u) r l') : FillsL e l ((i, x) :: r) l'

theorem fillsL_run {ρ S w} {e : Sh} : ∀ {l l' : List DV} {ps : List (Nat × AV)} {vs : List (Nat × Value)}, FillsL e l ps l' → (∀ x ∈ l, Has e x) → ps.map (·.1) = vs.map (·.1) → Rvs ρ S w (ps.map (·.2)) (vs.map (·.2)) →
      (∀ x ∈ l', Has e x) ∧ l'.length = l.length ∧ Instr.fill (fun i => some (i * e.size, e.size)) (l.flatMap (flat e)).toArray vs = some (l'.flatMap (flat e)).toArray := by
  intro l l' ps vs h
  induction h generalizing vs with
  | nil l =>
    intro hv h1 _
    cases vs with
    | nil => exact ⟨hv, rfl, rfl⟩
    | cons _ _ => simp at h1
  | @cons l l' i x u r hd hi k ih =>
    intro hv h1 h2
    cases vs with
    | nil => simp at h1
    | cons y vs =>
      obtain ⟨j, y⟩ := y
      simp only [List.map_cons, List.cons.injEq] at h1
      obtain ⟨rfl, h1⟩ := h1
      simp only [List.map_cons] at h2
      obtain ⟨h3, h4⟩ := h2
      obtain ⟨hu, rfl⟩ := Rv_isD hd h3
      have hle : i * e.size + e.size ≤ l.length * e.size := by rw [← Nat.succ_mul]; exact Nat.mul_le_mul_right _ (by omega)
      rw [fill_one (off := i * e.size) rfl hu (by simp only [List.size_toArray, flatMap_len hv]; exact hle)]
      have hl2 : ∀ y ∈ l.set i u, Has e y := by
        intro y hy
        rcases List.mem_or_eq_of_mem_set hy with hy | rfl
        · exact hv y hy
        · exact hu
      have h8 := ih hl2 h1 h4
      have hset := flatMap_set hv hu (show l[i]? = some l[i] by simp)
      rw [hset] at h8
      refine ⟨h8.1, by simpa using h8.2.1, h8.2.2⟩

theorem zeros_flat (z : List Value) (n : Nat) : (List.range (n * z.length)).map (fun i => z.toArray[i % z.toArray.size]!) = (List.replicate n z).flatten := by
  induction n with
  | zero => simp
  | succ n ih =>
    rw [Nat.succ_mul, List.range_add, List.map_append, ih, List.replicate_succ', List.flatten_append]
    congr 1
    simp only [List.map_map, List.flatten_cons, List.flatten_nil, List.append_nil]
    apply List.ext_getElem?
    intro j
    by_cases hj : j < z.length
    · simp [hj, Nat.mod_eq_of_lt hj]
    · simp [hj, List.getElem?_eq_none (Nat.le_of_not_lt hj)]

theorem zeros_eq {e : Sh} (he : e.size ≠ 0) (n : Nat) : (Array.range (n * e.size)).map (fun i => (flat e e.zero).toArray[i % (flat e e.zero).toArray.size]!) = ((List.replicate n e.zero).flatMap (flat e)).toArray := by
  have h := zeros_flat (flat e e.zero) n
  rw [flat_length (Has_zero e)] at h
  apply Array.ext'
  rw [Array.toList_map, Array.toList_range, h]
  simp [List.flatMap_replicate]

theorem step_buildSlice {t : TypeId} {n : Nat} {parts : Array (Nat × Operand)} {e : Sh} {l : List DV} (ho : o.op = .buildSlice t n parts) (ht : SlOk P t e) (hn : n ≤ 100)  (hs : e.size ≤ 10000)
    (hf : FillsL e (List.replicate n e.zero) (parts.toList.map fun p => (p.1, ev look p.2)) l) : OpStep P G o look H (.slc H.length 0 n) (H ++ [.seq true e l]) :=
  OpStep.made fun ρ a w hi he => by
    have hvs : Rvs ρ (shs H) w ((parts.toList.map fun p => (p.1, ev look p.2)).map (·.2)) ((parts.toList.map fun p => (p.1, a.eval p.2)).map (·.2)) := by
      have := Rvs_map (look := look) (ρ := ρ) (S := shs H) (w := w) (a := a) (l := parts.toList.map (·.2)) fun x hx => he.ev (by simp [ho, Op.operands]; simpa using hx)
      simpa [List.map_map, Function.comp_def] using this
    obtain ⟨et, hu, hte, hne⟩ := ht
    have hmap : (parts.map fun (x : Nat × Operand) => match x with | (i, x) => (i, a.eval x)).toList = parts.toList.map fun p => (p.1, a.eval p.2) := by simp
    obtain ⟨h1, h2, h3⟩ := fillsL_run hf (fun x hx => by rw [List.eq_of_mem_replicate hx]; exact Has_zero e) (by simp [List.map_map, Function.comp_def]) hvs
    have hcl : (l.flatMap (flat e)).length = n * e.size := by rw [flatMap_len h1, h2]; simp
    refine ⟨.slice (some ⟨w.heap.size, 0, none⟩) n n, .cells (l.flatMap (flat e)).toArray et (0, 0), ?_, ⟨h1, _, et, (0, 0), rfl, by simp, fun _ => rfl⟩, ⟨e, by simp [shs, Blk.sh], .inl ⟨n, by rw [upd_same]; simp, Nat.le_refl _, ?_⟩⟩⟩
    · rw [execOp.eq_1]
      have hsm : ¬ (n * e.size > 2 ^ 24) := by
        have : n * e.size ≤ 100 * 10000 := Nat.mul_le_mul hn hs
        omega
      have hmap2 : (parts.map fun x => (x.1, a.eval x.2)).toList = parts.toList.map fun p => (p.1, a.eval p.2) := by simp
      by_cases hz0 : n * e.size = 0
      · have hn0 : n = 0 := by rcases Nat.mul_eq_zero.1 hz0 with h | h; exact h; exact absurd h hne
        subst hn0
        have hsm0 : ¬ (0 > 2 ^ 24) := by omega
        have h3' : Instr.fill (fun i => some (i * e.size, e.size)) ((Array.range 0).map fun x => (#[] : Array Value)[x % (#[] : Array Value).size]!) (parts.toList.map fun p => (p.1, a.eval p.2)) = some (l.flatMap (flat e)).toArray := by
          rw [← h3]; congr 1; simp
        simp only [ho, Instr.buildSlice, Sem.run_bind, run_underlying hu, Result.andThen_ok, hte.sizeOf w, hz0, hsm0, if_false, if_true, Sem.run_pure, hmap2, h3']
        rfl
      · have h3' : Instr.fill (fun i => some (i * e.size, e.size)) ((Array.range (n * e.size)).map fun x => (flat e e.zero).toArray[x % (flat e e.zero).toArray.size]!) (parts.toList.map fun p => (p.1, a.eval p.2)) = some (l.flatMap (flat e)).toArray := by
          rw [zeros_eq hne n]; exact h3
        simp only [ho, Instr.buildSlice, Sem.run_bind, run_underlying hu, Result.andThen_ok, hte.sizeOf w, hsm, if_false, hz0, Sem.run_pure, hte.zero w, enc_cells (Has_zero e), hmap2, h3']
        rfl
    · rw [upd_same]
      have : (World.push w (.cells (l.flatMap (flat e)).toArray et (0, 0))).heap[w.heap.size]? = some (.cells (l.flatMap (flat e)).toArray et (0, 0)) := by rw [push_heap, Array.getElem?_push, if_pos rfl]
      unfold bsz
      rw [this]
      simp [hcl]

theorem step_makeSlice {t : TypeId} {x y : Operand} {n : Nat} {k k' : IntKind} {e : Sh} (ho : o.op = .makeSlice t x y) (ht : SlOk P t e) (hx : ev look x = .int k n) (hy : ev look y = .int k' n) (hn : n ≤ 1048576) :
    OpStep P G o look H (.slc H.length 0 n) (H ++ [.seq true e (List.replicate n e.zero)]) :=
  OpStep.made fun ρ a w hi he => by
    have hrx := he.ev (x := x) (by simp [ho, Op.operands])
    have hry := he.ev (x := y) (by simp [ho, Op.operands])
    rw [hx] at hrx; rw [hy] at hry
    simp only [Rv] at hrx hry
    obtain ⟨et, hu, hte, hne⟩ := ht
    obtain ⟨ti, hti, hts, htz, htb⟩ := hte.info
    have hall : ∀ z ∈ List.replicate n e.zero, Has e z := fun z hz => by rw [List.eq_of_mem_replicate hz]; exact Has_zero e
    have hcl : ((List.replicate n e.zero).flatMap (flat e)).length = n * e.size := by rw [flatMap_len hall]; simp
    refine ⟨.slice (some ⟨w.heap.size, 0, none⟩) n n, .cells ((List.replicate n e.zero).flatMap (flat e)).toArray et (0, 0), ?_, ⟨hall, _, et, (0, 0), rfl, by simp, fun _ => rfl⟩, ⟨e, by simp [shs, Blk.sh], .inl ⟨n, by rw [upd_same]; simp, Nat.le_refl _, ?_⟩⟩⟩
    · rw [execOp.eq_1]
      have hb : (ti.bytes : Int) * (n : Int) ≤ 281474976710656 := by
        have h1 : ti.bytes * n ≤ 65536 * 1048576 := Nat.mul_le_mul htb hn
        have h2 : ((ti.bytes * n : Nat) : Int) ≤ ((65536 * 1048576 : Nat) : Int) := Int.ofNat_le.2 h1
        rw [Int.natCast_mul] at h2
        omega
      have hr := run_make (P := P) w t et ti _ hu hti htz k k' n n (by omega) (Int.le_refl _) hb (by omega)
      have hmc : madeCells (enc e e.zero).cells ((n : Int).toNat * ti.size) = ((List.replicate n e.zero).flatMap (flat e)).toArray := by
        rw [Int.toNat_natCast, hts, enc_cells (Has_zero e), ← zeros_eq hne n]
        rfl
      rw [hmc] at hr
      simp only [Int.toNat_natCast] at hr
      simp only [ho, hrx, hry, Sem.run_bind, hr, Result.andThen_ok]
      rfl
    · rw [upd_same]
      have : (World.push w (.cells ((List.replicate n e.zero).flatMap (flat e)).toArray et (0, 0))).heap[w.heap.size]? = some (.cells ((List.replicate n e.zero).flatMap (flat e)).toArray et (0, 0)) := by rw [push_heap, Array.getElem?_push, if_pos rfl]
      unfold bsz
      rw [this]
      simp [hcl]

/-! ### '==' on data -/
/-- The types that '==' compares part by part, none of whose parts has a name of its own in the model. -/
def EqOk (P : Program) : Sh → TypeId → Prop
  | .int k, t => P.underlying t = some (.int k)
  | .bool, t => P.underlying t = some .bool
  | .str, t => P.underlying t = some .string
  | .arr n e, t => ∃ et, P.underlying t = some (.array n et) ∧ TyOk P e et ∧ EqOk P e et
  | .unit, _ => False
  | .cons _ _, _ => False

def eqD : Sh → DV → DV → Bool
  | .int _, .int _ a, .int _ b => a == b
  | .bool, .bool a, .bool b => a == b
  | .str, .str a, .str b => a.toList == b.toList
  | .arr n e, .arr f, .arr g => (List.range n).all fun i => eqD e (f i) (g i)
  | .cons a b, .cons x y, .cons z u => eqD a x z && eqD b y u
  | .unit, .unit, .unit => true
  | _, _, _ => false

theorem run_equalIn_arr {w : World} {d : Nat} {t et : TypeId} {n : Nat} {e : Sh} {u v : DV} (hu : P.underlying t = some (.array n et)) (hte : TyOk P e et) (h1 : Has (.arr n e) u) (h2 : Has (.arr n e) v)
    (ih : ∀ i, i < n → (Op.equalIn d et (enc e (u.get [i])) (enc e (v.get [i]))).run P w = .ok (eqD e (u.get [i]) (v.get [i])) w) :
    (Op.equalIn (d + 1) t (.agg (flat (.arr n e) u).toArray) (.agg (flat (.arr n e) v).toArray)).run P w = .ok ((List.range n).all fun i => eqD e (u.get [i]) (v.get [i])) w := by
  have hat : ∀ i, i < n → (Sh.arr n e).at? [i] = some (i * e.size, e) := fun i hi => by simp [Sh.at?, hi]
  simp only [Op.equalIn, Sem.run_bind, run_underlying hu, Result.andThen_ok, hte.sizeOf w]
  rw [Std.Legacy.Range.forIn_eq_forIn_range']
  simp only [Std.Legacy.Range.size, Nat.sub_zero, Nat.add_sub_cancel, Nat.div_one]
  have key : ∀ (m s : Nat), s + m = n → ((forIn (List.range' s m) ((none, ()) : Option Bool × Unit) fun i _ => do
      let x ← part et (flat (.arr n e) u).toArray (i * e.size)
      let y ← part et (flat (.arr n e) v).toArray (i * e.size)
      let q ← Op.equalIn d et x y
      if (!q) = true then pure (ForInStep.done (some false, ())) else pure (ForInStep.yield (none, ()))) : Sem (Option Bool × Unit)).run P w =
      .ok (if (List.range' s m).all (fun i => eqD e (u.get [i]) (v.get [i])) then none else some false, ()) w := by
    intro m
    induction m with
    | zero => intro s _; simp
    | succ m ihm =>
      intro s hs
      have p1 := run_part (P := P) (w := w) h1 (hat s (by omega)) hte
      have p2 := run_part (P := P) (w := w) h2 (hat s (by omega)) hte
      rw [List.range'_succ, List.forIn_cons]
      simp only [Sem.run_bind, p1, p2, Result.andThen_ok, ih s (by omega), List.all_cons]
      by_cases hq : eqD e (u.get [s]) (v.get [s]) = true
      · have h3 := ihm (s + 1) (by omega)
        simp only [hq, Bool.not_true, Bool.false_eq_true, if_false, Sem.run_pure, Result.andThen_ok, Bool.true_and]
        exact h3
      · have hq' : eqD e (u.get [s]) (v.get [s]) = false := by simpa using hq
        simp [hq']
  have h4 := key n 0 (by omega)
  rw [List.range_eq_range', h4]
  simp only [Result.andThen_ok]
  by_cases hq : ((List.range' 0 n).all fun i => eqD e (u.get [i]) (v.get [i])) = true
  · simp only [hq, if_true, Sem.run_pure]
  · have hq' : ((List.range' 0 n).all fun i => eqD e (u.get [i]) (v.get [i])) = false := by simpa using hq
    simp only [hq', Bool.false_eq_true, if_false, Sem.run_pure]

theorem enc_agg {τ : Sh} {v : DV} (h : τ.agg = true) : enc τ v = .agg (flat τ v).toArray := by simp [enc, h]

/-- '==' on an array of whole numbers. -/
theorem step_eqArr {op : BinOp} {t u : TypeId} {x y : Operand} {n : Nat} {k : IntKind} {a b : DV} (ho : o.op = .binOp op t x y u) (hx : ev look x = .agg (.arr n (.int k)) a) (hy : ev look y = .agg (.arr n (.int k)) b)
    (hop : op = .eql ∨ op = .neq) (ht : TyOk P (.arr n (.int k)) t) (hg : P.eqGuardType P.depth t = false) :
    OpStep P G o look H (.bool (if op = .eql then eqD (.arr n (.int k)) a b else !eqD (.arr n (.int k)) a b)) H :=
  OpStep.value fun ρ A w hi he => by
    have hrx := he.ev (x := x) (by simp [ho, Op.operands])
    have hry := he.ev (x := y) (by simp [ho, Op.operands])
    rw [hx] at hrx; rw [hy] at hry
    obtain ⟨_, hax, hvx⟩ := hrx
    obtain ⟨_, hay, hvy⟩ := hry
    have ht' := ht
    simp only [TyOk] at ht
    obtain ⟨⟨et, hu, hk, hinfo⟩, _⟩ := ht
    have hte : TyOk P (.int k) et := by simp only [TyOk]; exact ⟨hk, hinfo⟩
    have hcell : ∀ {v : DV} (i : Nat), Has (.arr n (.int k)) v → i < n → ∃ q, v.get [i] = .int k q ∧ enc (.int k) (v.get [i]) = .int k q := by
      intro v i hv hi
      have hg := (get_flat hv (show (Sh.arr n (.int k)).at? [i] = some (i * (Sh.int k).size, .int k) by simp [Sh.at?, hi])).1
      cases hq : v.get [i] <;> rw [hq] at hg <;> simp only [Has] at hg
      subst hg
      exact ⟨_, rfl, by simp [enc, Sh.agg, flat]⟩
    have hr := run_equalIn_arr (P := P) (w := w) (d := 9999) hu hte hax hay fun i hi => by
      obtain ⟨q1, e1, e2⟩ := hcell i hax hi
      obtain ⟨q2, e3, e4⟩ := hcell i hay hi
      rw [e2, e4, e1, e3]
      simp only [eqD]
      exact run_equalIn_int w 9998 et k k q1 q2 hk
    have hval : ((List.range n).all fun i => eqD (.int k) (a.get [i]) (b.get [i])) = eqD (.arr n (.int k)) a b := by
      cases a <;> cases b <;> simp only [Has] at hax hay
      simp only [eqD, DV.get]
    rw [hval] at hr
    have hq : (Op.equal t (.agg (flat (.arr n (.int k)) a).toArray) (.agg (flat (.arr n (.int k)) b).toArray)).run P w = .ok (eqD (.arr n (.int k)) a b) w := hr
    have hgd := run_eqGuard_agg (P := P) w op t x y (flat (.arr n (.int k)) a).toArray (flat (.arr n (.int k)) b).toArray hg
    rcases hop with rfl | rfl
    · refine ⟨.bool (eqD (.arr n (.int k)) a b), ?_, rfl⟩
      rw [execOp.eq_1]
      simp only [ho, hvx, hvy, Sem.run_bind, hgd, Result.andThen_ok, binOp, hq]
      rfl
    · refine ⟨.bool (!eqD (.arr n (.int k)) a b), ?_, rfl⟩
      rw [execOp.eq_1]
      simp only [ho, hvx, hvy, Sem.run_bind, hgd, Result.andThen_ok, binOp, hq]
      rfl

/-- '==' on a struct of two whole numbers. -/
theorem step_eqTwo {op : BinOp} {t u : TypeId} {x y : Operand} {k k' : IntKind} {a1 a2 b1 b2 : Int} {fs : Array Field} {f g : Field} (ho : o.op = .binOp op t x y u)
    (hx : ev look x = .agg (.cons (.int k) (.cons (.int k') .unit)) (.cons (.int k a1) (.cons (.int k' a2) .unit))) (hy : ev look y = .agg (.cons (.int k) (.cons (.int k') .unit)) (.cons (.int k b1) (.cons (.int k' b2) .unit)))
    (hop : op = .eql ∨ op = .neq) (ht : TyOk P (.cons (.int k) (.cons (.int k') .unit)) t) (hg : P.eqGuardType P.depth t = false) (hs : P.stoodInHeld t = false)
    (hfs : P.underlying t = some (.struct fs)) (hfl : fs.toList = [f, g]) (hn : f.name ≠ "_" ∧ g.name ≠ "_") :
    OpStep P G o look H (.bool (if op = .eql then (a1 == b1 && a2 == b2) else !(a1 == b1 && a2 == b2))) H :=
  OpStep.value fun ρ A w hi he => by
    have hrx := he.ev (x := x) (by simp [ho, Op.operands])
    have hry := he.ev (x := y) (by simp [ho, Op.operands])
    rw [hx] at hrx; rw [hy] at hry
    obtain ⟨_, hax, hvx⟩ := hrx
    obtain ⟨_, hay, hvy⟩ := hry
    have ht' := ht
    simp only [TyOk] at ht
    obtain ⟨⟨fs', f', r, h1, h2, h3, _, h5, h6⟩, _⟩ := ht
    rw [hfs] at h1
    cases h1
    rw [hfl] at h2
    cases h2
    simp only [FldOk, TyOk] at h6
    obtain ⟨h7, _, ⟨h8, h9⟩, _⟩ := h6
    have hf0 : P.fieldsOf t = fs := by simp [Program.fieldsOf, hfs]
    have hte1 : TyOk P (.int k) f.type := by simp only [TyOk]; exact h5
    have hte2 : TyOk P (.int k') g.type := by simp only [TyOk]; exact ⟨h8, h9⟩
    have hu1 := h5.1
    have hq : (Op.equal t (.agg (flat (.cons (.int k) (.cons (.int k') .unit)) (.cons (.int k a1) (.cons (.int k' a2) .unit))).toArray) (.agg (flat (.cons (.int k) (.cons (.int k') .unit)) (.cons (.int k b1) (.cons (.int k' b2) .unit))).toArray)).run P w = .ok (a1 == b1 && a2 == b2) w := by
      show (Op.equalIn (9999 + 1) t _ _).run P w = _
      rw [run_equalIn_struct w 9999 t _ _ (by rw [hf0]; exact hfs) hs, hf0, hfl]
      have q1 : ∀ (p q : Int) (c1 c2 : Array Value), c1[0]? = some (.int k p) → c2[0]? = some (.int k q) → (part f.type c1 0).run P w = .ok (.int k p) w ∧ (part f.type c2 0).run P w = .ok (.int k q) w := by
        intro p q c1 c2 hc1 hc2
        constructor <;> (unfold part; rw [Sem.run_bind, hte1.isAgg w]; simp [Sh.agg, hc1, hc2])
      have q2 : ∀ (p q : Int) (c1 c2 : Array Value), c1[1]? = some (.int k' p) → c2[1]? = some (.int k' q) → (part g.type c1 1).run P w = .ok (.int k' p) w ∧ (part g.type c2 1).run P w = .ok (.int k' q) w := by
        intro p q c1 c2 hc1 hc2
        constructor <;> (unfold part; rw [Sem.run_bind, hte2.isAgg w]; simp [Sh.agg, hc1, hc2])
      obtain ⟨r1, r2⟩ := q1 a1 b1 (flat (.cons (.int k) (.cons (.int k') .unit)) (.cons (.int k a1) (.cons (.int k' a2) .unit))).toArray (flat (.cons (.int k) (.cons (.int k') .unit)) (.cons (.int k b1) (.cons (.int k' b2) .unit))).toArray (by simp [flat]) (by simp [flat])
      obtain ⟨r3, r4⟩ := q2 a2 b2 (flat (.cons (.int k) (.cons (.int k') .unit)) (.cons (.int k a1) (.cons (.int k' a2) .unit))).toArray (flat (.cons (.int k) (.cons (.int k') .unit)) (.cons (.int k b1) (.cons (.int k' b2) .unit))).toArray (by simp [flat]) (by simp [flat])
      have i1 := run_equalIn_int (P := P) w 9998 f.type k k a1 b1 hu1
      have i2 := run_equalIn_int (P := P) w 9998 g.type k' k' a2 b2 h8
      have hg1 : g.offset = 1 := by rw [h7]; rfl
      simp only [Op.eqFields, h3, hg1, hn.1, hn.2, ne_eq, not_false_eq_true, if_true, Sem.run_bind, r1, r2, r3, r4, Result.andThen_ok, Sem.run_ite]
      rw [i1]
      simp only [Result.andThen_ok]
      by_cases hab : a1 = b1
      · subst hab
        simp only [beq_self_eq_true, Bool.not_true, Bool.false_eq_true, if_false, Bool.true_and, r3, r4, Result.andThen_ok]
        rw [i2]
        simp only [Result.andThen_ok]
        by_cases hab2 : a2 = b2 <;> simp [hab2]
      · have hb : (a1 == b1) = false := by simpa using hab
        simp [hb]
    have hgd := run_eqGuard_agg (P := P) w op t x y (flat (.cons (.int k) (.cons (.int k') .unit)) (.cons (.int k a1) (.cons (.int k' a2) .unit))).toArray (flat (.cons (.int k) (.cons (.int k') .unit)) (.cons (.int k b1) (.cons (.int k' b2) .unit))).toArray hg
    rcases hop with rfl | rfl
    · refine ⟨.bool (a1 == b1 && a2 == b2), ?_, rfl⟩
      rw [execOp.eq_1]
      simp only [ho, hvx, hvy, Sem.run_bind, hgd, Result.andThen_ok, binOp, hq]
      rfl
    · refine ⟨.bool (!(a1 == b1 && a2 == b2)), ?_, rfl⟩
      rw [execOp.eq_1]
      simp only [ho, hvx, hvy, Sem.run_bind, hgd, Result.andThen_ok, binOp, hq]
      rfl
end
end Ink
