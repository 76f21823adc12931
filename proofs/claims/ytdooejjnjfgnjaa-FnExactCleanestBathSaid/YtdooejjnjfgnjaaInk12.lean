/- The evaluator: regions, code, loops, functions. 'acall_of_body' turns what it asks into a contract. No conditions. -/
import Derived.Test.YtdooejjnjfgnjaaInk11
set_option linter.unusedVariables false
set_option linter.unusedSimpArgs false
namespace Ink
open Go

abbrev Env := List (Nat × AV)
def look (E : Env) (t : Nat) : AV := match E with
  | [] => .junk
  | (s, v) :: r => if s = t then v else look r t
def putE (E : Env) (d : Option Tmp) (v : AV) : Env := match d with
  | none => E
  | some d => (d, v) :: E

theorem look_putE (E : Env) (d : Option Tmp) (v : AV) : look (putE E d v) = updE (look E) d v := by
  cases d with
  | none => rfl
  | some d =>
    funext t
    simp only [putE, look, updE]
    by_cases h : d = t
    · rw [if_pos h, if_pos h.symm]
    · rw [if_neg h, if_neg fun e => h e.symm]

/-- The destination of an operation of the region. -/
def dstOf (ops : List Oper) (j : Nat) : Option Tmp := (ops[j]?).bind (·.dst)

/-- A guard's value: a bool, or nothing at all if the guard's own operation was passed over. -/
def onG : AV → (Bool → Prop) → Prop → Prop
  | .bool b, k, _ => k b
  | .tup [], _, q => q
  | _, _, _ => False
theorem onG_spec {v : AV} {k : Bool → Prop} {q : Prop} (h : onG v k q) : (∃ b, v = .bool b ∧ k b) ∨ (v = .tup [] ∧ q) := by
  unfold onG at h
  split at h
  · exact .inl ⟨_, rfl, h⟩
  · exact .inr ⟨rfl, h⟩
  · exact h.elim

def aops (C : Ctx) (n : Nat) (W : List Nat) (ops : List Oper) : List Oper → Env → Heap → (Env → Heap → Prop) → Prop
  | [], E, H, Q => Q E H
  | o :: r, E, H, Q => match o.guard with
    | none => aop C n W (look E) H o.op fun v H' => aops C n W ops r (putE E o.dst v) H' Q
    | some (j, want) => onSome (dstOf ops j) fun d => onG (look E d) (fun b => gsplit b fun b' =>
        if b' = want then aop C n W (look ((d, .bool b') :: E)) H o.op fun v H' => aops C n W ops r (putE ((d, .bool b') :: E) o.dst v) H' Q
        else aops C n W ops r (putE ((d, .bool b') :: E) o.dst (.tup [])) H Q) (aops C n W ops r (putE E o.dst (.tup [])) H Q)

def GIs (C : Ctx) (n : Nat) (W : List Nat) (ops : Array Oper) (o : Oper) (E : Nat → AV) (H : Heap) (v : AV) (H' : Heap) : Prop :=
  (GuardIs ops o E true ∧ OpIs C n W E H o.op v H') ∨ (GuardIs ops o E false ∧ v = .tup [] ∧ H' = H)

inductive Tr (C : Ctx) (n : Nat) (W : List Nat) (ops : Array Oper) : List Oper → (Nat → AV) → Heap → (Nat → AV) → Heap → Prop where
  | nil (E H) : Tr C n W ops [] E H E H
  | cons {o r E H v H1 E' H'} (h : GIs C n W ops o E H v H1) (k : Tr C n W ops r (updE E o.dst v) H1 E' H') : Tr C n W ops (o :: r) E H E' H'

theorem look_same {E : Env} {d : Nat} {b : Bool} (h : look E d = .bool b) : look ((d, .bool b) :: E) = look E := by
  funext t
  simp only [look]
  split
  · rename_i e; subst e; exact h.symm
  · rfl

theorem aops_tr {C : Ctx} (hC : C.Ok) {n W} {ops : List Oper} : ∀ {l : List Oper} {E : Env} {H : Heap} {Q : Env → Heap → Prop}, aops C n W ops l E H Q → ∃ E' H', Tr C n W ops.toArray l (look E) H (look E') H' ∧ Q E' H'
  | [], E, H, Q, h => ⟨E, H, .nil _ _, h⟩
  | o :: r, E, H, Q, h => by
    unfold aops at h
    split at h
    · rename_i hg
      obtain ⟨v, H1, h1, h2⟩ := aop_sound hC h
      obtain ⟨E', H', h3, h4⟩ := aops_tr hC h2
      rw [look_putE] at h3
      exact ⟨E', H', .cons (.inl ⟨by simp [GuardIs, hg], h1⟩) h3, h4⟩
    · rename_i j want hg
      obtain ⟨d, hd, h⟩ := onSome_spec h
      have hd' : (ops.toArray[j]?).bind (·.dst) = some d := by simpa [dstOf] using hd
      rcases onG_spec h with ⟨b, hb, h⟩ | ⟨hu, h⟩
      · skip
        have hcase : (b = want → aop C n W (look ((d, .bool b) :: E)) H o.op fun v H' => aops C n W ops r (putE ((d, .bool b) :: E) o.dst v) H' Q) ∧
            (b ≠ want → aops C n W ops r (putE ((d, .bool b) :: E) o.dst (.tup [])) H Q) := by
          obtain ⟨h1, h2⟩ := h
          cases b
          · have := h2 rfl
            dsimp only at this
            exact ⟨fun e => by rw [if_pos e] at this; exact this, fun e => by rw [if_neg e] at this; exact this⟩
          · have := h1 rfl
            dsimp only at this
            exact ⟨fun e => by rw [if_pos e] at this; exact this, fun e => by rw [if_neg e] at this; exact this⟩
        by_cases hw : b = want
        · have h1 := hcase.1 hw
          rw [look_same hb] at h1
          obtain ⟨v, H1, h1, h2⟩ := aop_sound hC h1
          obtain ⟨E', H', h3, h4⟩ := aops_tr hC h2
          rw [look_putE, look_same hb] at h3
          exact ⟨E', H', .cons (.inl ⟨by simp only [GuardIs, hg]; exact ⟨d, hd', .inl ⟨b, hb, by simp [hw]⟩⟩, h1⟩) h3, h4⟩
        · have h1 := hcase.2 hw
          obtain ⟨E', H', h3, h4⟩ := aops_tr hC h1
          rw [look_putE, look_same hb] at h3
          exact ⟨E', H', .cons (.inr ⟨by simp only [GuardIs, hg]; exact ⟨d, hd', .inl ⟨b, hb, by simp [hw]⟩⟩, rfl, rfl⟩) h3, h4⟩
      · obtain ⟨E', H', h3, h4⟩ := aops_tr hC h
        rw [look_putE] at h3
        exact ⟨E', H', .cons (.inr ⟨by simp only [GuardIs, hg]; exact ⟨d, hd', .inr ⟨hu, trivial⟩⟩, rfl, rfl⟩) h3, h4⟩

/-! ### A region's soundness -/
/-- The state of a frame. -/
structure St (G : Ent) (nt : Nat) (E : Nat → AV) (H : Heap) (a : Act) (w : World) : Prop where
  tmps : a.tmps.size = nt
  defers : a.defers = []
  st : ∃ ρ, Inv G ρ H w ∧ ∀ t, Rv ρ (shs H) w (E t) (a.tmps.getD t undef)

theorem St.put {G : Ent} {nt : Nat} {E : Nat → AV} {H H' : Heap} {a : Act} {w w' : World} {ρ ρ' : Nat → Nat} {v : AV} {x : Value} {d : Option Tmp} (ht : a.tmps.size = nt) (hdf : a.defers = []) (he : ∀ t, Rv ρ (shs H) w (E t) (a.tmps.getD t undef)) (hd : ∀ t, d = some t → t < nt)
    (hi : Inv G ρ' H' w') (hE : Ext ρ (shs H) w ρ' (shs H') w') (hx : Rv ρ' (shs H') w' v x) : St G nt (updE E d v) H' (a.put d x) w' := by
  cases d with
  | none => exact ⟨ht, hdf, ρ', hi, fun t => (he t).mono hE⟩
  | some d =>
    refine ⟨by simp [Act.put, ht], hdf, ρ', hi, fun t => ?_⟩
    by_cases h : t = d
    · subst h
      have := hd t rfl
      simp [updE, Act.put, ht, this]
      exact hx
    · simp only [updE, if_neg h]
      have h' : ¬ d = t := fun e => h e.symm
      simp [Act.put, h']
      have := (he t).mono hE
      simpa using this

def dstOk (nt : Nat) (ops : List Oper) : Bool := ops.all fun o => match o.dst with | some d => decide (d < nt) | none => true

theorem dstOk_spec {nt : Nat} {ops : List Oper} (h : dstOk nt ops = true) {o : Oper} (ho : o ∈ ops) : ∀ t, o.dst = some t → t < nt := by
  intro t ht
  have := List.all_eq_true.1 h o ho
  simpa [ht] using this

theorem tr_wp {C : Ctx} {G : Ent} {nt : Nat} {ops : Array Oper} (hd : dstOk nt ops.toList = true) {Q : Exit → Act → World → Prop} :
    ∀ {l : List Oper} {k : Nat} {E H E' H'}, (∀ j, l[j]? = ops[k + j]?) → Tr C G.S.length G.W ops l E H E' H' → (∀ a w, St G nt E' H' a w → Q .normal a w) → ∀ a w, St G nt E H a w →
      wpOps C.P ops Q (List.range' k l.length) a w
  | [], k, E, H, E', H', _, ht, hq, a, w, hs => by cases ht; simpa [wpOps] using hq a w hs
  | o :: l, k, E, H, E', H', hl, ht, hq, a, w, hs => by
    have ho : ops[k]? = some o := by simpa using (hl 0).symm
    have hom : o ∈ ops.toList := by
      rw [← Array.getElem?_toList] at ho
      exact List.mem_of_getElem? ho
    cases ht with
    | @cons _ _ _ _ v H1 _ _ h1 h2 =>
    obtain ⟨hts, hdf, ρ, hi, he⟩ := hs
    have hrest := fun a w => tr_wp (G := G) (nt := nt) hd (l := l) (k := k + 1) (fun j => by have := hl (j + 1); simpa [Nat.add_assoc, Nat.add_comm 1 j] using this) h2 hq a w
    rw [List.length_cons, List.range'_succ]
    simp only [wpOps, ho]
    rcases h1 with ⟨hg, hop⟩ | ⟨hg, rfl, rfl⟩
    · rw [hg.wanted fun t _ => he t]
      simp only [if_true]
      left
      exact hop.1 G o rfl rfl rfl ρ a w _ _ hi (fun t _ => he t) fun x w' ρ' h3 h4 h5 => hrest _ _ (St.put hts hdf he (dstOk_spec hd hom) h3 h4 h5)
    · rw [hg.wanted fun t _ => he t]
      simp only [Bool.false_eq_true, if_false]
      exact hrest _ _ (St.put hts hdf he (dstOk_spec hd hom) hi (Ext.refl _ _ _) ⟨[], rfl, trivial⟩)

def clsO (C : Ctx) (o : Oper) : Cls := clsOp C o.op

theorem tr_run {C : Ctx} {G : Ent} {ops : Array Oper} : ∀ {l : List Oper} {k : Nat} {E H E' H'}, (∀ j, l[j]? = ops[k + j]?) → k + l.length = ops.size → Tr C G.S.length G.W ops l E H E' H' →
    ∃ (Es : Nat → Nat → AV) (Hs : Nat → Heap) (vs : Nat → AV), Es k = E ∧ Hs k = H ∧ Es ops.size = E' ∧ Hs ops.size = H' ∧
      ∀ m o, k ≤ m → ops[m]? = some o → GIs C G.S.length G.W ops o (Es m) (Hs m) (vs m) (Hs (m + 1)) ∧ Es (m + 1) = updE (Es m) o.dst (vs m)
  | [], k, E, H, E', H', _, hk, ht => by
    cases ht
    refine ⟨fun _ => E, fun _ => H, fun _ => .junk, rfl, rfl, rfl, rfl, fun m o hm ho => ?_⟩
    have := (Array.getElem?_eq_some_iff.1 ho).1
    simp at hk
    omega
  | o :: l, k, E, H, E', H', hl, hk, ht => by
    have ho : ops[k]? = some o := by simpa using (hl 0).symm
    cases ht with
    | @cons _ _ _ _ v H1 _ _ h1 h2 =>
    obtain ⟨Es, Hs, vs, e1, e2, e3, e4, e5⟩ := tr_run (k := k + 1) (fun j => by have := hl (j + 1); simpa [Nat.add_assoc, Nat.add_comm 1 j] using this) (by simp at hk; omega) h2
    have hks : k ≠ ops.size := by simp at hk; omega
    refine ⟨fun m => if m = k then E else Es m, fun m => if m = k then H else Hs m, fun m => if m = k then v else vs m, by simp, by simp, by show (if ops.size = k then E else Es ops.size) = E'; rw [if_neg (fun e => hks e.symm)]; exact e3, by show (if ops.size = k then H else Hs ops.size) = H'; rw [if_neg (fun e => hks e.symm)]; exact e4, fun m o' hm ho' => ?_⟩
    by_cases hmk : m = k
    · subst hmk
      rw [ho] at ho'
      cases ho'
      simp only [if_true]
      rw [if_neg (by omega), if_neg (by omega), e1, e2]
      exact ⟨h1, rfl⟩
    · have := e5 m o' (by omega) ho'
      simp only [hmk, if_false]
      rw [if_neg (by omega), if_neg (by omega)]
      exact this

theorem getD_none (m j : Nat) : (Array.replicate m false).getD j false = false := by
  rcases Nat.lt_or_ge j m with h | h
  · simp [h]
  · simp [h]

/-- The pairs lie apart. -/
def apB (x y : AV) : Prop := ∀ b b', blkOf x = some b → blkOf y = some b' → b ≠ b'
def Apart (ap : List (Tmp × Tmp)) (E : Nat → AV) : Prop := ∀ p ∈ ap, apB (E p.1) (E p.2)

/-- A load that comes late. -/
theorem late_of {C : Ctx} {G : Ent} {ap : List (Tmp × Tmp)} {ops : Array Oper} {Es : Nat → Nat → AV} {Hs : Nat → Heap} {vs : Nat → AV} (hap : Apart ap (Es ops.size))
    (hst : ∀ m o, ops[m]? = some o → GIs C G.S.length G.W ops o (Es m) (Hs m) (vs m) (Hs (m + 1)) ∧ Es (m + 1) = updE (Es m) o.dst (vs m)) (k : Nat) (o : Oper) (ho : ops[k]? = some o) (hc : clsO C o = .read) (m : Nat) (hkm : k ≤ m) (hm : m ≤ ops.size)
    (hall : ∀ i b, k ≤ i → i < m → ops[i]? = some b → heavy (clsO C b) = true → clsO C b = .new ∨ allowed (clsO C) ap ops k i o b = true) : GStep C.P G ops o (Es k) (Hs m) (vs k) (Hs m) := by
  rcases (hst k o ho).1 with ⟨h1, h2⟩ | ⟨h1, h2, _⟩
  · refine .inl ⟨h1, ?_⟩
    by_cases hex : ∃ i b, k ≤ i ∧ i < m ∧ ops[i]? = some b ∧ allowed (clsO C) ap ops k i o b = true
    · obtain ⟨i0, b0, hi0, hi0m, hb0, ha0⟩ := hex
      obtain ⟨_, _, _, _, t, x, _, _, _, hop, _⟩ := allowed_spec ha0
      obtain ⟨hlt, hld⟩ := h2.2.2.2.2.2.ld t _ hop
      have hxs : ∀ d, k + d ≤ ops.size → Es (k + d) x = Es k x := by
        have hx := (allowed_spec ha0).2.2.2.2
        obtain ⟨_, x', _, _, _, hop', _, _, hnx, _⟩ := hx
        rw [hop] at hop'
        cases hop'
        intro d
        induction d with
        | zero => intro _; rfl
        | succ d ih =>
          intro hd
          have hq : ops[k + d]? = some ops[k + d] := by simp
          rw [← Nat.add_assoc, (hst _ _ hq).2, ← ih (by omega)]
          have := hnx (k + d) _ (by omega) hq
          cases hds : ops[k + d].dst with
          | none => rfl
          | some e => rw [hds] at this; simp only [updE]; rw [if_neg fun h => this (by rw [h])]
      have hget : ∀ b, blkOf (Es k x) = some b → ∀ d, k + d ≤ m → (Hs (k + d))[b]? = (Hs k)[b]? := by
        intro b hb d
        have hbl := hlt b hb
        induction d with
        | zero => intro _; rfl
        | succ d ih =>
          intro hd
          have hih := ih (by omega)
          have hbl' : b < (Hs (k + d)).length := by
            rw [List.getElem?_eq_getElem hbl] at hih
            exact (List.getElem?_eq_some_iff.1 hih).1
          have hq : ops[k + d]? = some ops[k + d] := by simp
          rw [← hih, ← Nat.add_assoc]
          rcases (hst _ _ hq).1 with ⟨g1, g2⟩ | ⟨_, _, g3⟩
          · by_cases hh : heavy (clsO C ops[k + d]) = true
            · rcases hall (k + d) _ (by omega) (by omega) hq hh with hn | ha
              · obtain ⟨N, hN⟩ := g2.2.2.2.2.1 hn
                rw [hN, List.getElem?_append_left hbl']
              · obtain ⟨_, _, _, _, _, x', _, y, _, hop', hst', hmem, _, hny⟩ := allowed_spec ha
                rw [hop] at hop'
                cases hop'
                obtain ⟨b', B', hb', hH'⟩ := g2.2.2.2.2.2.st _ _ _ hst'
                have hys : ∀ e, k + d + e ≤ ops.size → Es (k + d + e) y = Es (k + d) y := by
                  intro e
                  induction e with
                  | zero => intro _; rfl
                  | succ e ihe =>
                    intro he
                    have hq2 : ops[k + d + e]? = some ops[k + d + e] := by simp
                    rw [← Nat.add_assoc, (hst _ _ hq2).2, ← ihe (by omega)]
                    have := hny (k + d + e) _ (by omega) hq2
                    cases hds : ops[k + d + e].dst with
                    | none => rfl
                    | some e => rw [hds] at this; simp only [updE]; rw [if_neg fun h => this (by rw [h])]
                have e1 : Es ops.size x = Es k x := by
                  have := hxs (ops.size - k) (by omega)
                  rwa [show k + (ops.size - k) = ops.size by omega] at this
                have e2 : Es ops.size y = Es (k + d) y := by
                  have := hys (ops.size - (k + d)) (by omega)
                  rwa [show k + d + (ops.size - (k + d)) = ops.size by omega] at this
                have hne := hap _ hmem b b' (by rw [e1]; exact hb) (by rw [e2]; exact hb')
                rw [hH', List.getElem?_set_ne fun e => hne e.symm]
            · rw [g2.2.1 (show heavy (clsO C ops[k + d]) = false by simpa using hh)]
          · rw [g3]
      have e3 : k + (m - k) = m := by omega
      exact hld G o (Hs m) rfl rfl rfl fun b hb => by have := hget b hb (m - k) (by omega); rwa [e3] at this
    · have hgrow : ∀ d, k + d ≤ m → ∃ N, Hs (k + d) = Hs k ++ N := by
        intro d
        induction d with
        | zero => intro _; exact ⟨[], by simp⟩
        | succ d ih =>
          intro hd
          obtain ⟨N, hN⟩ := ih (by omega)
          have hq : ops[k + d]? = some ops[k + d] := by simp
          rw [← Nat.add_assoc]
          rcases (hst _ _ hq).1 with ⟨g1, g2⟩ | ⟨_, _, g3⟩
          · by_cases hh : heavy (clsO C ops[k + d]) = true
            · rcases hall (k + d) _ (by omega) (by omega) hq hh with hn | ha
              · obtain ⟨N', hN'⟩ := g2.2.2.2.2.1 hn
                exact ⟨N ++ N', by rw [hN', hN, List.append_assoc]⟩
              · exact absurd ⟨k + d, _, by omega, by omega, hq, ha⟩ hex
            · exact ⟨N, by rw [g2.2.1 (show heavy (clsO C ops[k + d]) = false by simpa using hh), hN]⟩
          · exact ⟨N, by rw [g3, hN]⟩
      obtain ⟨N, hN⟩ := hgrow (m - k) (by omega)
      rw [show k + (m - k) = m by omega] at hN
      rw [hN]
      exact h2.2.2.2.1 hc G o N rfl rfl rfl
  · exact .inr ⟨h1, h2, rfl⟩

theorem region_sound {C : Ctx} (hC : C.Ok) {G : Ent} {nt id : Nat} {ops : Array Oper} {draw : Bool} {ap : List (Tmp × Tmp)} {E H E' H'} (hok : (if draw then orderOk (clsO C) ap nt ops else dstOk nt ops.toList) = true) (hap : draw = true → Apart ap E')
    (ht : Tr C G.S.length G.W ops ops.toList E H E' H') {Q : Exit → Act → World → Prop} (hq : ∀ a w, St G nt E' H' a w → Q .normal a w) : ∀ a w, St G nt E H a w → (Code.region id ops draw).wp C.P Q a w := by
  intro a w hs
  cases draw with
  | false =>
    simp only [Bool.false_eq_true, if_false] at hok
    refine wp_region ?_
    have := tr_wp hok (l := ops.toList) (k := 0) (by simp) ht hq a w hs
    rwa [Array.length_toList, ← List.range_eq_range'] at this
  | true =>
    simp only [if_true] at hok
    refine wp_region_any hC.mixed ?_
    obtain ⟨Es, Hs, vs, e1, e2, e3, e4, e5⟩ := tr_run (k := 0) (l := ops.toList) (by simp) (by simp) ht
    have hrun : Run C.P G (clsO C) ap ops Es Hs vs := by
      refine ⟨fun k o ho => ?_, fun k o ho hc => ?_, fun k o ho hc => ?_, late_of (by rw [e3]; exact hap rfl) (fun m o ho => e5 m o (Nat.zero_le _) ho), fun k o ho hc H => ?_, fun k o ho => (e5 k o (Nat.zero_le _) ho).2⟩
      · rcases (e5 k o (Nat.zero_le _) ho).1 with ⟨h1, h2⟩ | h
        · exact .inl ⟨h1, h2.1 G o rfl rfl rfl⟩
        · exact .inr h
      · rcases (e5 k o (Nat.zero_le _) ho).1 with ⟨h1, h2⟩ | h
        · exact h2.2.1 hc
        · exact h.2.2
      · rcases (e5 k o (Nat.zero_le _) ho).1 with ⟨h1, h2⟩ | h
        · exact h2.2.2.2.2.1 hc
        · exact ⟨[], by rw [h.2.2, List.append_nil]⟩
      · rcases (e5 k o (Nat.zero_le _) ho).1 with ⟨h1, h2⟩ | h
        · exact .inl ⟨h1, h2.2.2.1 hc G o H rfl rfl rfl⟩
        · exact .inr ⟨h.1, h.2.1, rfl⟩
    obtain ⟨hts, hdf, ρ, hi, he⟩ := hs
    refine order_sound hrun hok (nt := nt) (fun ρ a w h1 h2 h3 h4 => hq a w ⟨h1, h2, ρ, by rw [← e4]; exact h3, by rw [← e4, ← e3]; exact h4⟩) ops.size _ a _ ?_ ?_
    · simp
    · refine ⟨by simp, fun j o _ hl => ?_, hts, hdf, ρ, 0, Nat.zero_le _, fun i o _ _ => ?_, by rw [e2]; exact hi.drew, fun t => ⟨fun i o _ _ hl => ?_, fun _ => ?_⟩⟩
      · rw [getD_none] at hl; cases hl
      · rw [getD_none]; simp
      · rw [getD_none] at hl; cases hl
      · rw [e1, e2]; exact (he t).mono Ext.drew

/-! ### Code -/
inductive AEx where
  | normal
  | ret
  | exit (n : Nat)

def AEx.toExit : AEx → Exit
  | .normal => .normal
  | .ret => .ret
  | .exit n => .exit n

/-- What a state may forget: temporaries, and blocks of the call's own, which may get other numbers. -/
def sg (n : Nat) (τ : List Nat) (i : Nat) : Nat := if i < n then i else n + τ.getD (i - n) 0

def BlkW (σ : Nat → Nat) (m : Nat) : Blk → Blk → Prop
  | .data s v, B => B = .data s v
  | .seq wr e l, B => ∃ wr' l', B = .seq wr' e l' ∧ l <+: l' ∧ (wr = true → wr' = true)
  | .ref x, B => inScope m x ∧ B = .ref (ren σ x)
  | .dead _, _ => False

def tailW (σ : Nat → Nat) (m : Nat) (L : Heap) : List Nat → Heap → Prop
  | [], [] => True
  | k :: τ, B :: L' => onSome L[k]? (BlkW σ m B) ∧ tailW σ m L τ L'
  | _, _ => False

def envW (σ : Nat → Nat) (m : Nat) (E : Env) : Env → Prop
  | [] => True
  | (t, v) :: r => (inScope m v ∧ look E t = ren σ v) ∧ envW σ m E r

def headW (n : Nat) (A : Heap) : Prop := ∀ (i : Nat) (x : AV), A[i]? = some (Blk.ref x) → inScope n x ∧ ∀ σ : Nat → Nat, (∀ i, i < n → σ i = i) → ren σ x = x

structure HeapW (n : Nat) (H H' : Heap) (σ : Nat → Nat) : Prop where
  ex : ∃ A L L' τ, H = A ++ L ∧ A.length = n ∧ H' = A ++ L' ∧ τ.Nodup ∧ headW n A ∧ σ = sg n τ ∧ tailW σ H'.length L τ L'

def WeakS (n : Nat) (E : Env) (H : Heap) (E' : Env) (H' : Heap) : Prop := ∃ σ, HeapW n H H' σ ∧ envW σ H'.length E E'

theorem tailW_get {σ m L} : ∀ {τ : List Nat} {L' : Heap}, tailW σ m L τ L' → τ.length = L'.length ∧ ∀ j B, L'[j]? = some B → ∃ B0, L[τ.getD j 0]? = some B0 ∧ BlkW σ m B B0
  | [], [], _ => ⟨rfl, fun j B h => by simp at h⟩
  | [], _ :: _, h => h.elim
  | _ :: _, [], h => h.elim
  | k :: τ, B :: L', h => by
    obtain ⟨h1, h2⟩ := h
    obtain ⟨h3, h4⟩ := tailW_get h2
    obtain ⟨B0, h5, h6⟩ := onSome_spec h1
    refine ⟨by simp [h3], fun j B' hj => ?_⟩
    cases j with
    | zero => simp at hj; subst hj; exact ⟨B0, by simpa using h5, h6⟩
    | succ j => simpa using h4 j B' (by simpa using hj)

theorem BlkW_sh {σ m B B0} (h : BlkW σ m B B0) : B.sh = B0.sh := by
  cases B with
  | data s v => simp only [BlkW] at h; subst h; rfl
  | seq wr e l => obtain ⟨_, _, rfl, _⟩ := h; rfl
  | ref x => obtain ⟨_, rfl⟩ := h; rfl
  | dead s => exact h.elim
theorem BlkW_lv {σ m B B0} (h : BlkW σ m B B0) : B0.lv = true := by
  cases B with
  | data s v => simp only [BlkW] at h; subst h; rfl
  | seq wr e l => obtain ⟨_, _, rfl, _⟩ := h; rfl
  | ref x => obtain ⟨_, rfl⟩ := h; rfl
  | dead s => exact h.elim
theorem BlkW_wr {σ m B B0} (h : BlkW σ m B B0) (hw : B.wr = true) : B0.wr = true := by
  cases B with
  | data s v => simp only [BlkW] at h; subst h; rfl
  | seq wr e l => obtain ⟨wr', _, rfl, _, h⟩ := h; exact h hw
  | ref x => obtain ⟨_, rfl⟩ := h; rfl
  | dead s => exact h.elim

theorem prefix_flatMap {e : Sh} {l l' : List DV} (h : l <+: l') : l.flatMap (flat e) <+: l'.flatMap (flat e) := by
  obtain ⟨t, rfl⟩ := h
  rw [List.flatMap_append]
  exact List.prefix_append _ _

mutual
theorem inScope_mono {m m' : Nat} (hm : m ≤ m') : ∀ {a : AV}, inScope m a → inScope m' a
  | .int _ _, _ => trivial
  | .bool _, _ => trivial
  | .str _, _ => trivial
  | .agg _ _, _ => trivial
  | .nilp, _ => trivial
  | .nils, _ => trivial
  | .junk, _ => trivial
  | .ptr _ _ _, h => Nat.lt_of_lt_of_le h hm
  | .rptr _, h => Nat.lt_of_lt_of_le h hm
  | .slc _ _ _, h => Nat.lt_of_lt_of_le h hm
  | .fn _ _ _, h => ⟨inScopes_mono hm h.1, inScopes_mono hm h.2⟩
  | .tup _, h => inScopes_mono hm h
theorem inScopes_mono {m m' : Nat} (hm : m ≤ m') : ∀ {a : List AV}, inScopes m a → inScopes m' a
  | [], _ => trivial
  | _ :: _, h => ⟨inScope_mono hm h.1, inScopes_mono hm h.2⟩
end

/-- What may be forgotten is sound to forget. -/
theorem HeapW.sound {n : Nat} {H H' : Heap} {σ : Nat → Nat} {G : Ent} {ρ : Nat → Nat} {w : World} (hn : G.S.length = n) (h : HeapW n H H' σ) (hi : Inv G ρ H w) :
    Inv G (fun i => ρ (σ i)) H' w ∧ ∀ {v x}, inScope H'.length v → Rv ρ (shs H) w (ren σ v) x → Rv (fun i => ρ (σ i)) (shs H') w v x := by
  obtain ⟨A, L, L', τ, rfl, hA, rfl, hnd, hhd, hσ, hT⟩ := h.ex
  obtain ⟨hlen, hget⟩ := tailW_get hT
  have hσlt : ∀ i, i < n → σ i = i := fun i hi => by rw [hσ]; simp [sg, hi]
  have hσge : ∀ i, n ≤ i → σ i = n + τ.getD (i - n) 0 := fun i hi => by rw [hσ]; simp [sg]; omega
  have hcase : ∀ i B, (A ++ L')[i]? = some B → (i < n ∧ A[i]? = some B) ∨ (n ≤ i ∧ ∃ B0, (A ++ L)[σ i]? = some B0 ∧ BlkW σ (A ++ L').length B B0) := by
    intro i B hi
    rcases Nat.lt_or_ge i n with h | h
    · rw [List.getElem?_append_left (by omega)] at hi; exact .inl ⟨h, hi⟩
    · rw [List.getElem?_append_right (by omega), hA] at hi
      obtain ⟨B0, h1, h2⟩ := hget _ _ hi
      refine .inr ⟨h, B0, ?_, h2⟩
      rw [hσge i h, List.getElem?_append_right (by omega), hA, Nat.add_sub_cancel_left]
      exact h1
  have hAl : Along σ (A ++ L').length (shs (A ++ L)) (shs (A ++ L')) := by
    intro b hb
    have hB : (A ++ L')[b]? = some (A ++ L')[b] := by simp
    rcases hcase b _ hB with ⟨h1, h2⟩ | ⟨h1, B0, h2, h3⟩
    · rw [hσlt b h1, shs_get hB]
      exact shs_get (by rw [List.getElem?_append_left (by omega)]; exact h2)
    · rw [shs_get h2, shs_get hB, BlkW_sh h3]
  have hinj : ∀ i j, i < (A ++ L').length → j < (A ++ L').length → σ i = σ j → i = j := by
    intro i j hi' hj' he
    simp only [List.length_append, hA] at hi' hj'
    rcases Nat.lt_or_ge i n with h1 | h1 <;> rcases Nat.lt_or_ge j n with h2 | h2
    · rwa [hσlt i h1, hσlt j h2] at he
    · rw [hσlt i h1, hσge j h2] at he; omega
    · rw [hσge i h1, hσlt j h2] at he; omega
    · rw [hσge i h1, hσge j h2] at he
      have hi2 : i - n < τ.length := by omega
      have hj2 : j - n < τ.length := by omega
      have he' : τ[i - n] = τ[j - n] := by
        simp only [List.getD_eq_getElem?_getD, List.getElem?_eq_getElem hi2, List.getElem?_eq_getElem hj2, Option.getD_some] at he
        omega
      have hpw := List.pairwise_iff_getElem.1 hnd
      rcases Nat.lt_trichotomy (i - n) (j - n) with h | h | h
      · exact absurd he' (hpw _ _ hi2 hj2 h)
      · omega
      · exact absurd he'.symm (hpw _ _ hj2 hi2 h)
  have hRv : ∀ {v x}, inScope (A ++ L').length v → Rv ρ (shs (A ++ L)) w (ren σ v) x → Rv (fun i => ρ (σ i)) (shs (A ++ L')) w v x := fun hs hr => Rv_unren hAl hs hr
  refine ⟨⟨⟨?_, ?_⟩, hi.os, hi.tape, hi.out, hi.size, hi.old, hi.sz, fun i hlt => ?_, fun i h1 h2 => ?_, ?_⟩, hRv⟩
  · intro i B hB
    rcases hcase i B hB with ⟨h1, h2⟩ | ⟨h1, B0, h2, h3⟩
    · have hB' : (A ++ L)[i]? = some B := by rw [List.getElem?_append_left (by omega)]; exact h2
      have hr := hi.rel.blk i B hB'
      show RB _ _ w B w.heap[ρ (σ i)]?
      rw [hσlt i h1]
      cases B with
      | ref x =>
        obtain ⟨v, T, h4, h5⟩ := hr
        obtain ⟨h6, h7⟩ := hhd i x h2
        refine ⟨v, T, h4, hRv ?_ (by rw [h7 σ hσlt]; exact h5)⟩
        exact inScope_mono (by simp; omega) h6
      | _ => exact hr
    · have hr := hi.rel.blk _ B0 h2
      cases B with
      | data s v => simp only [BlkW] at h3; subst h3; exact hr
      | seq wr e l =>
        obtain ⟨wr', l', rfl, hp, hw⟩ := h3
        obtain ⟨h4, c, T, fz, h5, h6, h7⟩ := hr
        exact ⟨fun x hx => h4 x (hp.subset hx), c, T, fz, h5, (prefix_flatMap hp).trans h6, fun h => h7 (hw h)⟩
      | ref x =>
        obtain ⟨hs, rfl⟩ := h3
        obtain ⟨v, T, h4, h5⟩ := hr
        exact ⟨v, T, h4, hRv hs h5⟩
      | dead s => exact h3.elim
  · intro i j B D hB hD hne hw hl
    have hne' : σ i ≠ σ j := fun e => hne (hinj i j (get_lt hB) (get_lt hD) e)
    have p1 : ∃ B0, (A ++ L)[σ i]? = some B0 ∧ B0.wr = true := by
      rcases hcase i B hB with ⟨h1, h2⟩ | ⟨h1, B0, h2, h3⟩
      · exact ⟨B, by rw [hσlt i h1, List.getElem?_append_left (by omega)]; exact h2, hw⟩
      · exact ⟨B0, h2, BlkW_wr h3 hw⟩
    have p2 : ∃ D0, (A ++ L)[σ j]? = some D0 ∧ D0.lv = true := by
      rcases hcase j D hD with ⟨h1, h2⟩ | ⟨h1, B0, h2, h3⟩
      · exact ⟨D, by rw [hσlt j h1, List.getElem?_append_left (by omega)]; exact h2, hl⟩
      · exact ⟨B0, h2, BlkW_lv h3⟩
    obtain ⟨B0, h1, h2⟩ := p1
    obtain ⟨D0, h3, h4⟩ := p2
    exact hi.rel.sep _ _ B0 D0 h1 h3 hne' h2 h4
  · rw [hn] at hlt; rw [hσlt i hlt]; exact hi.pre i (by omega)
  · rw [hn] at h1
    have h3 : i - n < τ.length := by simp [hA] at h2; omega
    have hB : (A ++ L')[i]? = some (A ++ L')[i] := by simp
    rcases hcase i _ hB with ⟨h4, _⟩ | ⟨_, B0, h5, _⟩
    · omega
    · exact hi.new (σ i) (by rw [hσge i h1]; omega) (get_lt h5)
  · have h1 := hi.sh
    rw [shs_append] at h1 ⊢
    have h2 : G.S = shs A := by
      have h3 : G.S <+: shs A := List.prefix_of_prefix_length_le h1 (List.prefix_append _ _) (by rw [shs_length]; omega)
      exact h3.eq_of_length (by rw [shs_length]; omega)
    rw [h2]
    exact List.prefix_append _ _

theorem WeakS.sound {n : Nat} {E E' : Env} {H H' : Heap} {G : Ent} {nt : Nat} {a : Act} {w : World} (hn : G.S.length = n) (h : WeakS n E H E' H') (hs : St G nt (look E) H a w) : St G nt (look E') H' a w := by
  obtain ⟨σ, hW, hE⟩ := h
  obtain ⟨hts, hdf, ρ, hi, he⟩ := hs
  obtain ⟨hi', hR⟩ := hW.sound hn hi
  refine ⟨hts, hdf, _, hi', ?_⟩
  clear hW hi'
  induction E' with
  | nil => exact fun t => trivial
  | cons x E' ih =>
    obtain ⟨s, v⟩ := x
    obtain ⟨⟨h1, h2⟩, h3⟩ := hE
    intro t
    simp only [look]
    by_cases hst : s = t
    · subst hst
      rw [if_pos rfl]
      exact hR h1 (by rw [← h2]; exact he s)
    · rw [if_neg hst]
      exact ih h3 t

/-! ### Code -/
def thenQ (k : Env → Heap → Prop) (Q : AEx → Env → Heap → Prop) : AEx → Env → Heap → Prop
  | .normal => k
  | x => Q x
def blockQ (id : Nat) (Q : AEx → Env → Heap → Prop) : AEx → Env → Heap → Prop
  | .exit m => if m = id then Q .normal else Q (.exit m)
  | x => Q x

def headD : List Oper → Option Tmp
  | [] => none
  | o :: _ => o.dst
def apAll : List (Tmp × Tmp) → Env → Prop
  | [], _ => True
  | (x, y) :: r, E => apB (look E x) (look E y) ∧ apAll r E
theorem apAll_spec {E : Env} : ∀ {ap : List (Tmp × Tmp)}, apAll ap E → Apart ap (look E)
  | [], _, p, hp => by simp at hp
  | (x, y) :: r, h, p, hp => by
    rcases List.mem_cons.1 hp with rfl | hp
    · exact h.1
    · exact apAll_spec h.2 p hp

def acode (C : Ctx) (n : Nat) (W : List Nat) : Code → Env → Heap → (AEx → Env → Heap → Prop) → Prop
  | .skip, E, H, Q => Q .normal E H
  | .region id ops draw, E, H, Q => if draw then aops C n W ops.toList ops.toList E H (fun E H => apAll (C.ap id (headD ops.toList)) E ∧ Q .normal E H) else aops C n W ops.toList ops.toList E H (Q .normal)
  | .seq a b, E, H, Q => acode C n W a E H (thenQ (fun E H => acode C n W b E H Q) Q)
  | .cond c a b, E, H, Q => onB (ev (look E) c) fun t => gsplit t fun t' => if t' then acode C n W a E H Q else acode C n W b E H Q
  | .block id c, E, H, Q => acode C n W c E H (blockQ id Q)
  | .loop c, E, H, Q => ∃ (ι : Type) (p : ι → Prop) (μ : ι → Nat) (EE : ι → Env) (HH : ι → Heap), (∃ i, p i ∧ WeakS n E H (EE i) (HH i)) ∧
      ∀ i, p i → acode C n W c (EE i) (HH i) (thenQ (fun E' H' => ∃ j, p j ∧ μ j < μ i ∧ WeakS n E' H' (EE j) (HH j)) Q)
  | .exit m, E, H, Q => Q (.exit m) E H
  | .ret, E, H, Q => Q .ret E H
  | _, _, _, _ => False

def codeOk (C : Ctx) (nt : Nat) : Code → Bool
  | .region id ops draw => if draw then orderOk (clsO C) (C.ap id (headD ops.toList)) nt ops else dstOk nt ops.toList
  | .seq a b => codeOk C nt a && codeOk C nt b
  | .cond _ a b => codeOk C nt a && codeOk C nt b
  | .block _ c => codeOk C nt c
  | .loop c => codeOk C nt c
  | .skip => true
  | .exit _ => true
  | .ret => true
  | _ => false

theorem exists_least (p : Nat → Prop) : ∀ n, p n → ∃ k, p k ∧ ∀ m, p m → k ≤ m := by
  intro n
  induction n using Nat.strongRecOn with
  | _ n ih =>
    intro hn
    by_cases h : ∃ m, m < n ∧ p m
    · obtain ⟨m, h1, h2⟩ := h
      exact ih m h1 h2
    · exact ⟨n, hn, fun m hm => Nat.le_of_not_lt fun hl => h ⟨m, hl, hm⟩⟩

def postQ (G : Ent) (nt : Nat) (Q : AEx → Env → Heap → Prop) : Exit → Act → World → Prop := fun e a w => ∃ x E H, e = x.toExit ∧ Q x E H ∧ St G nt (look E) H a w

theorem acode_sound {C : Ctx} (hC : C.Ok) {G : Ent} {nt : Nat} : ∀ {c : Code} {E : Env} {H : Heap} {Q : AEx → Env → Heap → Prop}, codeOk C nt c = true → acode C G.S.length G.W c E H Q →
    ∀ a w, St G nt (look E) H a w → c.wp C.P (postQ G nt Q) a w := by
  intro c
  induction c with
  | skip => intro E H Q _ h a w hs; exact wp_skip ⟨.normal, E, H, rfl, h, hs⟩
  | region id ops draw =>
    intro E H Q hok h a w hs
    cases draw with
    | false =>
      obtain ⟨E', H', h1, h2⟩ := aops_tr hC (show aops C G.S.length G.W ops.toList ops.toList E H (Q .normal) from h)
      exact region_sound hC (ap := []) (draw := false) (by simpa [codeOk] using hok) (fun e => by cases e) h1 (fun a w hs => ⟨.normal, E', H', rfl, h2, hs⟩) a w hs
    | true =>
      obtain ⟨E', H', h1, h3, h2⟩ := aops_tr hC (show aops C G.S.length G.W ops.toList ops.toList E H (fun E H => apAll (C.ap id (headD ops.toList)) E ∧ Q .normal E H) from h)
      exact region_sound hC (ap := C.ap id (headD ops.toList)) (draw := true) (by simpa [codeOk] using hok) (fun _ => apAll_spec h3) h1 (fun a w hs => ⟨.normal, E', H', rfl, h2, hs⟩) a w hs
  | seq x y ihx ihy =>
    intro E H Q hok h a w hs
    simp only [codeOk, Bool.and_eq_true] at hok
    refine wp_seq (wp_mono (ihx hok.1 h a w hs) ?_)
    rintro e a w ⟨x, E, H, rfl, hq, hs⟩
    cases x with
    | normal => exact ihy hok.2 hq a w hs
    | ret => exact ⟨.ret, E, H, rfl, hq, hs⟩
    | exit m => exact ⟨.exit m, E, H, rfl, hq, hs⟩
  | cond c x y ihx ihy =>
    intro E H Q hok h a w hs
    simp only [codeOk, Bool.and_eq_true] at hok
    obtain ⟨b, hb, h1, h2⟩ := onB_spec (show onB _ _ from h)
    have hv : a.eval c = .bool b := by
      obtain ⟨_, _, ρ, _, he⟩ := hs
      have : Rv ρ (shs H) w (ev (look E) c) (a.eval c) := by
        cases c with
        | tmp t => exact he t
        | const v =>
          have : EnvOn ρ (shs H) w (.move (.const v)) (look E) a := fun t ht => by simp [opTmps, Op.operands] at ht
          exact this.ev (by simp [Op.operands])
        | global g => trivial
        | func f => exact ⟨[], [], rfl, trivial, trivial⟩
      rw [hb] at this
      exact this
    refine wp_cond hv ?_
    cases b
    · exact ihy hok.2 (by have := h2 rfl; exact this) a w hs
    · exact ihx hok.1 (by have := h1 rfl; exact this) a w hs
  | block id c ih =>
    intro E H Q hok h a w hs
    refine wp_block (wp_mono (ih hok h a w hs) ?_)
    rintro e a w ⟨x, E, H, rfl, hq, hs⟩
    cases x with
    | normal => exact ⟨.normal, E, H, rfl, hq, hs⟩
    | ret => exact ⟨.ret, E, H, rfl, hq, hs⟩
    | exit m =>
      simp only [blockQ] at hq
      simp only [AEx.toExit, Exit.inBlock]
      by_cases hm : m = id
      · rw [if_pos hm] at hq ⊢; exact ⟨.normal, E, H, rfl, hq, hs⟩
      · rw [if_neg hm] at hq ⊢; exact ⟨.exit m, E, H, rfl, hq, hs⟩
  | loop c ih =>
    intro E H Q hok h a w hs
    obtain ⟨ι, p, μ, EE, HH, ⟨i0, hp0, hw0⟩, hround⟩ := h
    let I : Nat → Act → World → Prop := fun k a w => ∃ i, μ i = k ∧ p i ∧ St G nt (look (EE i)) (HH i) a w
    have hleast : ∀ a w, (∃ k, I k a w) → ∃ k, I k a w ∧ ∀ m, I m a w → k ≤ m := fun a w ⟨k, hk⟩ => exists_least (fun k => I k a w) k hk
    let ν : Act → World → Nat := fun a w => by classical exact if h : ∃ k, I k a w then Classical.choose (hleast a w h) else 0
    have hν : ∀ a w (h : ∃ k, I k a w), I (ν a w) a w ∧ ∀ m, I m a w → ν a w ≤ m := by
      intro a w h
      have : ν a w = Classical.choose (hleast a w h) := by simp only [ν]; rw [dif_pos h]
      rw [this]
      exact Classical.choose_spec (hleast a w h)
    refine wp_loop (fun a w => ∃ k, I k a w) ν ⟨μ i0, i0, rfl, hp0, hw0.sound rfl hs⟩ ?_
    intro a w hI
    obtain ⟨⟨i, hi1, hi2, hi3⟩, _⟩ := hν a w hI
    refine wp_mono (ih hok (hround i hi2) a w hi3) ?_
    rintro e a' w' ⟨x, E, H, rfl, hq, hs⟩
    cases x with
    | normal =>
      obtain ⟨j, hj1, hj2, hj3⟩ := hq
      have hI' : I (μ j) a' w' := ⟨j, rfl, hj1, hj3.sound rfl hs⟩
      refine ⟨⟨μ j, hI'⟩, ?_⟩
      have := (hν a' w' ⟨μ j, hI'⟩).2 (μ j) hI'
      omega
    | ret => exact ⟨.ret, E, H, rfl, hq, hs⟩
    | exit m => exact ⟨.exit m, E, H, rfl, hq, hs⟩
  | exit m => intro E H Q _ h a w hs; exact wp_exit ⟨.exit m, E, H, rfl, h, hs⟩
  | ret => intro E H Q _ h a w hs; exact wp_ret ⟨.ret, E, H, rfl, h, hs⟩
  | _ => intro E H Q _ h; exact h.elim

/-! ### Functions -/
def ares (C : Ctx) (E : Env) (H : Heap) : List ResultVar → (List AV → Prop) → Prop
  | [], k => k []
  | .tmp t :: r, k => ares C E H r fun l => k (look E t :: l)
  | .cell x t :: r, k => onAddr (look E x) (fun b p τ => C.ty t = some τ ∧ onSome H[b]? fun B => onSome (B.get? p) fun v => ares C E H r fun l => k (ofD τ v :: l))
      (fun b => (C.rf t).isSome = true ∧ onRef H[b]? fun v => ares C E H r fun l => k (v :: l))

def one : List AV → AV
  | [v] => v
  | l => .tup l

/-- What a call hands back, and what is left of its heap. -/
def fin (n : Nat) (v : AV) (H : Heap) (v' : AV) (H' : Heap) : Prop := ∃ σ, HeapW n H H' σ ∧ inScope H'.length v' ∧ v = ren σ v'

def argE : List AV → Nat → Env
  | [], _ => []
  | v :: l, k => (k, v) :: argE l (k + 1)

def finQ (C : Ctx) (rs : List ResultVar) (n : Nat) (v : AV) (H : Heap) : AEx → Env → Heap → Prop
  | .exit _, _, _ => False
  | _, E, H' => ares C E H' rs fun l => fin n (one l) H' v H

theorem look_argE {args : List AV} : ∀ {k t : Nat}, look (argE args k) t = if k ≤ t then args.getD (t - k) .junk else .junk := by
  induction args with
  | nil => intro k t; simp [argE, look]
  | cons v l ih =>
    intro k t
    simp only [argE, look]
    by_cases h : k = t
    · subst h; simp
    · rw [if_neg h, ih]
      by_cases h1 : k + 1 ≤ t
      · rw [if_pos h1, if_pos (by omega), show t - k = (t - (k + 1)) + 1 by omega]; simp
      · rw [if_neg h1, if_neg (by omega)]

theorem Rvs_get {ρ S w} : ∀ {l : List AV} {x : List Value} (i : Nat), Rvs ρ S w l x → l.length = x.length ∧ Rv ρ S w (l.getD i .junk) (x.getD i undef)
  | [], [], i, _ => ⟨rfl, by simp [Rv]⟩
  | _ :: _, _ :: _, 0, h => ⟨by simp [(Rvs_get 0 h.2).1], by simpa using h.1⟩
  | _ :: _, _ :: _, i + 1, h => ⟨by simp [(Rvs_get i h.2).1], by simpa using (Rvs_get i h.2).2⟩
  | [], _ :: _, _, h => h.elim
  | _ :: _, [], _, h => h.elim

def resOne (tmps : Array Value) : ResultVar → Sem Value
  | .tmp t => pure (tmps.getD t undef)
  | .cell a t => do loadVar t (← asAddr (tmps.getD a undef))

theorem results_eq (fn : Func) (tmps : Array Value) : results fn tmps = (do let vs ← fn.results.mapM (resOne tmps); pure (if h : vs.size = 1 then vs[0] else .tuple vs)) := rfl

theorem ares_sound {C : Ctx} (hC : C.Ok) {G : Ent} {ρ : Nat → Nat} {H : Heap} {w : World} {E : Env} {tmps : Array Value} (hi : Inv G ρ H w) (he : ∀ t, Rv ρ (shs H) w (look E t) (tmps.getD t undef)) :
    ∀ {rs : List ResultVar} {k : List AV → Prop}, ares C E H rs k → ∃ l vs, (rs.mapM (resOne tmps)).run C.P w = .ok vs w ∧ Rvs ρ (shs H) w l vs ∧ k l
  | [], k, h => ⟨[], [], rfl, trivial, h⟩
  | .tmp t :: rs, k, h => by
    obtain ⟨l, vs, h1, h2, h3⟩ := ares_sound hC hi he (rs := rs) h
    exact ⟨look E t :: l, tmps.getD t undef :: vs, by rw [List.mapM_cons]; simp [Sem.run_bind, h1, resOne], ⟨he t, h2⟩, h3⟩
  | .cell x t :: rs, k, h => by
    have hx := he x
    rcases onAddr_spec (show onAddr _ _ _ from h) with ⟨b, p, τ, h1, h2, h3⟩ | ⟨b, h1, h2, h3⟩
    · obtain ⟨B, h4, h5⟩ := onSome_spec h3
      obtain ⟨v, h6, h7⟩ := onSome_spec h5
      obtain ⟨l, vs, k1, k2, k3⟩ := ares_sound hC hi he (rs := rs) h7
      rw [h1] at hx
      obtain ⟨s, off, e1, e2, e3⟩ := hx
      have : s = B.sh := by rw [shs_get h4] at e1; exact (Option.some.inj e1).symm
      subst this
      obtain ⟨c, T, fz, hc, hh, hl⟩ := blk_get (hi.rel.blk b B h4) e2 h6
      refine ⟨ofD τ v :: l, enc τ v :: vs, ?_, ⟨Rv_ofD hh, k2⟩, k3⟩
      rw [List.mapM_cons]
      have e3' := e3
      simp only [Array.getD_eq_getD_getElem?] at e3'
      simp [Sem.run_bind, resOne, e3', asAddr, run_loadVar hc (hC.ty _ _ h2) hh hl, k1]
    · obtain ⟨v, h4, h5⟩ := onRef_spec h3
      obtain ⟨l, vs, k1, k2, k3⟩ := ares_sound hC hi he (rs := rs) h5
      rw [h1] at hx
      obtain ⟨_, e3⟩ := hx
      obtain ⟨u, T, hc, hh⟩ := hi.rel.blk b _ h4
      obtain ⟨z, hz⟩ := Option.isSome_iff_exists.1 h2
      obtain ⟨d, i, hd, hi1, hi2, _, hdd⟩ := hC.rf _ _ hz
      have hcell : w.cell? ⟨ρ b, 0, none⟩ = some u := by rw [cell_of_row w _ _ _ _ _ hc]; rfl
      have hagg : (isAgg t).run C.P w = .ok false w := by
        unfold isAgg
        rw [Sem.run_bind, run_underlying hd w]
        cases d <;> first | rfl | cases hdd
      refine ⟨v :: l, u :: vs, ?_, ⟨hh, k2⟩, k3⟩
      rw [List.mapM_cons]
      have e3' := e3
      simp only [Array.getD_eq_getD_getElem?] at e3'
      simp [Sem.run_bind, resOne, e3', asAddr, loadVar, hagg, hcell, k1]

theorem acall_of_body {C : Ctx} (hC : C.Ok) {f : FuncId} {fn : Func} {c : Code} {W : List Nat} {args : List AV} {H H' : Heap} {v : AV} (hf : C.P.funcs[f]? = some fn) (hb : fn.body = some c)
    (hname : (fn.name == "runtime.NumGoroutine") = false) {rs : List ResultVar} (hrs : fn.results.toList = rs) (hok : codeOk C fn.ntmps c = true) (hargs : args.length ≤ fn.ntmps)
    (h : acode C H.length W c (argE args 0) H (finQ C rs H.length v H')) : ACall C.P W f args H v H' := by
  subst hrs
  refine ⟨⟨fn, hf, hname, by simp [hb]⟩, fun ρ w vs hrel hvs => ?_⟩
  let G : Ent := ⟨ρ, w, shs H, W⟩
  have hn : G.S.length = H.length := shs_length
  have hlen := (Rvs_get 0 hvs).1
  have hinv : Inv G ρ H w := ⟨hrel, rfl, rfl, rfl, Nat.le_refl _, fun _ _ _ => rfl, fun _ => Nat.le_refl _, fun _ _ => rfl, fun i h1 h2 => by rw [hn] at h1; omega, List.prefix_refl _⟩
  have hst : St G fn.ntmps (look (argE args 0)) H { tmps := vs.toArray ++ Array.replicate (fn.ntmps - vs.toArray.size) undef, defers := [] } w := by
    refine ⟨by simp; omega, rfl, ρ, hinv, fun t => ?_⟩
    rw [look_argE]
    simp only [Nat.zero_le, if_true, Nat.sub_zero]
    have h1 := (Rvs_get t hvs).2
    by_cases ht : t < vs.length
    · have : (vs.toArray ++ Array.replicate (fn.ntmps - vs.toArray.size) undef).getD t undef = vs.getD t undef := by
        simp [Array.getElem?_append, ht, List.getD]
      rw [this]; exact h1
    · have : args.getD t .junk = .junk := by simp [List.getD, List.getElem?_eq_none (show args.length ≤ t by omega)]
      rw [this]; trivial
  refine calls_of_wp hf hb ?_
  rw [← hn] at h
  refine wp_mono (acode_sound hC hok h _ _ hst) ?_
  rintro e a w' ⟨x, E, H2, rfl, hq, hts, hdf, ρ2, hi, he⟩
  have main : ares C E H2 fn.results.toList (fun l => fin G.S.length (one l) H2 v H') → a.defers = [] ∧ ∃ x, (results fn a.tmps).run C.P w' = .ok x w' ∧ ∃ y ρ', Ending.returned x = Ending.returned y ∧ Inv ⟨ρ, w, shs H, W⟩ ρ' H' w' ∧ Rv ρ' (shs H') w' v y := by
    intro hr
    obtain ⟨l, xs, h1, h2, σ, h3, h4, h5⟩ := ares_sound hC hi he hr
    obtain ⟨h6, h7⟩ := h3.sound rfl hi
    have hres : ∃ y, (results fn a.tmps).run C.P w' = .ok y w' ∧ Rv ρ2 (shs H2) w' (one l) y := by
      rw [results_eq]
      have hm : (fn.results.mapM (resOne a.tmps)).run C.P w' = .ok xs.toArray w' := by
        rw [Array.mapM_eq_mapM_toList, Sem.run_map]
        rw [h1]
        rfl
      rw [Sem.run_bind, hm]
      simp only [Result.andThen_ok, Sem.run_pure]
      have hlen2 := (Rvs_get 0 h2).1
      by_cases hl1 : xs.toArray.size = 1
      · rw [dif_pos hl1]
        match l, xs, h2 with
        | [v], [x], h2 => exact ⟨x, rfl, h2.1⟩
        | [], [], h2 => simp at hl1
        | _ :: _ :: _, _ :: _ :: _, h2 => simp at hl1
      · rw [dif_neg hl1]
        refine ⟨_, rfl, ?_⟩
        match l, xs, h2 with
        | [v], [x], h2 => simp at hl1
        | [], [], h2 => exact ⟨[], rfl, trivial⟩
        | a :: b :: l, x :: y :: xs, h2 => exact ⟨x :: y :: xs, rfl, h2⟩
    obtain ⟨y, hy1, hy2⟩ := hres
    exact ⟨hdf, y, hy1, y, _, rfl, h6, h7 h4 (by rw [← h5]; exact hy2)⟩
  rw [hn] at main
  cases x with
  | normal => rw [hn] at hq; exact main hq
  | ret => rw [hn] at hq; exact main hq
  | exit m => exact hq.elim
end Ink
