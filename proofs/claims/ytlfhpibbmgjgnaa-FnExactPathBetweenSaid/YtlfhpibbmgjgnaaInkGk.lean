/- Contracts of functions of the program, by the texts that it imports. No conditions. -/
import Derived.Test.YtlfhpibbmgjgnaaInkGh
import Derived.Test.YtlfhpibbmgjgnaaInkGb
import Derived.Test.YtlfhpibbmgjgnaaInkGe
import Derived.Test.YtlfhpibbmgjgnaaInkGf
set_option linter.unusedVariables false
set_option linter.unusedSimpArgs false
/- Distances on a sheet, as a walk in breadth finds them, and the way back. No conditions. -/
namespace Ink
open Go

abbrev QL := List ((Int × Int) × Int)
def spO (e : (Int × Int) × Int) : SpotM := ⟨e.1.1, e.1.2⟩
def ky (p : SpotM) : Int × Int := (p.x, p.y)
theorem ky_spO (e : (Int × Int) × Int) : ky (spO e) = e.1 := rfl
theorem spO_ky (p : SpotM) (d : Int) : spO (ky p, d) = p := rfl
theorem ky_inj {p q : SpotM} (h : ky p = ky q) : p = q := by
  cases p; cases q; simp only [ky, Prod.mk.injEq] at h; rw [h.1, h.2]
def queL (q : QL) : List SpotM := q.map spO

theorem mget_append_some {k : Int × Int} {d : Int} {r : QL} : ∀ {q : QL}, mget q k = some d → mget (q ++ r) k = some d
  | [], h => by simp [mget] at h
  | p :: q, h => by
    simp only [List.cons_append, mget] at h ⊢
    by_cases e : p.1 = k
    · rw [if_pos e] at h ⊢; exact h
    · rw [if_neg e] at h ⊢; exact mget_append_some h
theorem mget_append_none {k : Int × Int} {r : QL} : ∀ {q : QL}, mget q k = none → mget (q ++ r) k = mget r k
  | [], _ => rfl
  | p :: q, h => by
    simp only [List.cons_append, mget] at h ⊢
    by_cases e : p.1 = k
    · rw [if_pos e] at h; cases h
    · rw [if_neg e] at h ⊢; exact mget_append_none h
theorem mget_mem {k : Int × Int} {d : Int} : ∀ {q : QL}, mget q k = some d → (k, d) ∈ q
  | [], h => by simp [mget] at h
  | p :: q, h => by
    simp only [mget] at h
    by_cases e : p.1 = k
    · rw [if_pos e] at h; cases h; rw [← e]; exact List.mem_cons_self
    · rw [if_neg e] at h; exact List.mem_cons_of_mem _ (mget_mem h)
theorem mget_none {k : Int × Int} : ∀ {q : QL}, mget q k = none → ∀ e ∈ q, e.1 ≠ k
  | [], _, e, he => by simp at he
  | p :: q, h, e, he => by
    simp only [mget] at h
    by_cases ek : p.1 = k
    · rw [if_pos ek] at h; cases h
    · rw [if_neg ek] at h
      rcases List.mem_cons.1 he with rfl | he
      · exact ek
      · exact mget_none h e he
theorem mget_of : ∀ {q : QL}, (q.map (·.1)).Nodup → ∀ e ∈ q, mget q e.1 = some e.2
  | [], _, e, he => by simp at he
  | p :: q, hn, e, he => by
    simp only [List.map_cons, List.nodup_cons] at hn
    simp only [mget]
    rcases List.mem_cons.1 he with rfl | he
    · rw [if_pos rfl]
    · rw [if_neg fun h => hn.1 (by rw [h]; exact List.mem_map_of_mem he)]
      exact mget_of hn.2 e he
theorem mset_new {k : Int × Int} {v : Int} : ∀ {q : QL}, mget q k = none → mset q k v = q ++ [(k, v)]
  | [], _ => rfl
  | p :: q, h => by
    simp only [mget] at h
    by_cases e : p.1 = k
    · rw [if_pos e] at h; cases h
    · rw [if_neg e] at h
      simp only [mset, if_neg e, List.cons_append]
      rw [mset_new h]

/-- How many different small numbers there are. -/
theorem nodup_len : ∀ (n : Nat) (l : List Nat), l.Nodup → (∀ x ∈ l, x < n) → l.length ≤ n
  | 0, l, _, h => by
    cases l with
    | nil => exact Nat.le_refl _
    | cons x l => exact absurd (h x List.mem_cons_self) (by omega)
  | n + 1, l, hn, h => by
    by_cases hm : n ∈ l
    · have h1 := nodup_len n (l.erase n) (hn.erase n) (fun x hx => by
        have h2 := (hn.mem_erase_iff).1 hx
        have := h x h2.2
        have := h2.1
        omega)
      rw [List.length_erase_of_mem hm] at h1
      omega
    · have := nodup_len n l hn (fun x hx => by
        have := h x hx
        have : x ≠ n := fun e => hm (e ▸ hx)
        omega)
      omega

def visit (d : Int) (q : QL) (n : SpotM) : QL := if (mget q (ky n)).isSome then q else q ++ [(ky n, d + 1)]
def rowQ (d : Int) (L : List SpotM) (q : QL) : Nat → QL
  | 0 => q
  | k + 1 => match L[k]? with
    | some n => visit d (rowQ d L q k) n
    | none => rowQ d L q k
noncomputable def bfsQ (s : SheetM) (b : SpotM) : Nat → QL
  | 0 => [(ky b, 0)]
  | i + 1 => match (bfsQ s b i)[i]? with
    | some e => rowQ e.2 (nbrs s e.1.1 e.1.2) (bfsQ s b i) (nbrs s e.1.1 e.1.2).length
    | none => bfsQ s b i

structure GoodQ (s : SheetM) (b : SpotM) (q : QL) : Prop where
  nd : (q.map (·.1)).Nodup
  fr : ∀ e ∈ q, freeP s e.1.1 e.1.2
  ix : ∀ (j : Nat) (e : (Int × Int) × Int), q[j]? = some e → 0 ≤ e.2 ∧ e.2 ≤ j
  b0 : q[0]? = some (ky b, 0)
  par : ∀ e ∈ q, e.1 = ky b ∨ ∃ p ∈ q, p.2 = e.2 - 1 ∧ spO e ∈ nbrs s p.1.1 p.1.2

section
variable {s : SheetM} {b : SpotM} {q : QL}
theorem visit_pre {d : Int} {n : SpotM} : q <+: visit d q n := by
  unfold visit; split
  · exact List.prefix_refl _
  · exact List.prefix_append _ _
theorem rowQ_pre {d : Int} {L : List SpotM} : ∀ k, q <+: rowQ d L q k
  | 0 => List.prefix_refl _
  | k + 1 => by
    rw [rowQ]; split
    · exact (rowQ_pre k).trans visit_pre
    · exact rowQ_pre k
theorem pre_get {q r : QL} (h : q <+: r) {j : Nat} {e : (Int × Int) × Int} (he : q[j]? = some e) : r[j]? = some e := prefix_get h he
theorem pre_mget {q r : QL} (h : q <+: r) {k : Int × Int} {d : Int} (he : mget q k = some d) : mget r k = some d := by
  obtain ⟨t, rfl⟩ := h; exact mget_append_some he
theorem visit_good (h : GoodQ s b q) {i : Nat} {e : (Int × Int) × Int} (he : q[i]? = some e) {n : SpotM} (hn : n ∈ nbrs s e.1.1 e.1.2) : GoodQ s b (visit e.2 q n) := by
  unfold visit
  cases hm : mget q (ky n) with
  | some d => exact h
  | none =>
    simp only [Option.isSome_none, Bool.false_eq_true, if_false]
    have hk := mget_none hm
    have hi := h.ix i e he
    have hlt := get_lt he
    refine ⟨?_, ?_, ?_, ?_, ?_⟩
    · rw [List.map_append, List.nodup_append]
      refine ⟨h.nd, by simp, ?_⟩
      intro x hx y hy
      simp only [List.map_cons, List.map_nil, List.mem_singleton] at hy
      subst hy
      obtain ⟨e', he', rfl⟩ := List.mem_map.1 hx
      exact hk e' he'
    · intro e' he'
      rcases List.mem_append.1 he' with he' | he'
      · exact h.fr e' he'
      · simp only [List.mem_singleton] at he'
        subst he'
        exact nbrs_mem hn
    · intro j e' he'
      by_cases hj : j < q.length
      · rw [List.getElem?_append_left hj] at he'; exact h.ix j e' he'
      · rw [List.getElem?_append_right (by omega)] at he'
        obtain ⟨h1, h2⟩ := List.getElem?_eq_some_iff.1 he'
        simp only [List.length_singleton] at h1
        have : j = q.length := by omega
        subst this
        simp at h2
        subst h2
        simp only
        omega
    · rw [List.getElem?_append_left (by have := get_lt h.b0; omega)]; exact h.b0
    · intro e' he'
      rcases List.mem_append.1 he' with he' | he'
      · rcases h.par e' he' with h1 | ⟨p, h1, h2⟩
        · exact .inl h1
        · exact .inr ⟨p, List.mem_append_left _ h1, h2⟩
      · simp only [List.mem_singleton] at he'
        subst he'
        exact .inr ⟨e, List.mem_append_left _ (List.mem_of_getElem? he), by simp only; omega, hn⟩
theorem rowQ_good (h : GoodQ s b q) {i : Nat} {e : (Int × Int) × Int} (he : q[i]? = some e) : ∀ k, GoodQ s b (rowQ e.2 (nbrs s e.1.1 e.1.2) q k)
  | 0 => h
  | k + 1 => by
    rw [rowQ]; split
    · rename_i n hn
      exact visit_good (rowQ_good h he k) (pre_get (rowQ_pre k) he) (List.mem_of_getElem? hn)
    · exact rowQ_good h he k
theorem rowQ_seen {d : Int} {L : List SpotM} : ∀ (k j : Nat) (n : SpotM), j < k → L[j]? = some n → (mget (rowQ d L q k) (ky n)).isSome = true
  | 0, j, n, h, _ => by omega
  | k + 1, j, n, h, hn => by
    rw [rowQ]
    by_cases hj : j = k
    · subst hj
      rw [hn]
      show (mget (visit d _ n) (ky n)).isSome = true
      unfold visit
      cases hm : mget (rowQ d L q j) (ky n) with
      | some v => simp [hm]
      | none =>
        simp only [Option.isSome_none, Bool.false_eq_true, if_false]
        rw [mget_append_none hm]
        simp [mget]
    · have : (mget (rowQ d L q k) (ky n)).isSome = true := rowQ_seen k j n (by omega) hn
      cases hL : L[k]? with
      | none => exact this
      | some m =>
        obtain ⟨v, hv⟩ := Option.isSome_iff_exists.1 this
        show (mget (visit d _ m) (ky n)).isSome = true
        rw [pre_mget visit_pre hv]; rfl
theorem bfs_pre {i : Nat} : bfsQ s b i <+: bfsQ s b (i + 1) := by
  rw [bfsQ.eq_2]; split
  · exact rowQ_pre _
  · exact List.prefix_refl _
theorem bfs_pre2 {i : Nat} : ∀ k, bfsQ s b i <+: bfsQ s b (i + k)
  | 0 => List.prefix_refl _
  | k + 1 => (bfs_pre2 k).trans bfs_pre
theorem bfs_good (hb : freeP s b.x b.y) : ∀ i, GoodQ s b (bfsQ s b i)
  | 0 => by
    refine ⟨by simp [bfsQ], ?_, ?_, rfl, ?_⟩
    · intro e he; simp only [bfsQ, List.mem_singleton] at he; subst he; exact hb
    · intro j e he
      simp only [bfsQ] at he
      cases j with
      | zero => simp at he; subst he; simp
      | succ j => simp at he
    · intro e he; simp only [bfsQ, List.mem_singleton] at he; subst he; exact .inl rfl
  | i + 1 => by
    rw [bfsQ.eq_2]; split
    · rename_i e he
      exact rowQ_good (bfs_good hb i) he _
    · exact bfs_good hb i
def ClosedQ (s : SheetM) (i : Nat) (q : QL) : Prop := ∀ j < i, ∀ e, q[j]? = some e → ∀ n ∈ nbrs s e.1.1 e.1.2, (mget q (ky n)).isSome = true
theorem bfs_closed : ∀ i, ClosedQ s i (bfsQ s b i)
  | 0 => fun j hj => by omega
  | i + 1 => by
    intro j hj e he n hn
    by_cases hji : j < i
    · by_cases hl : j < (bfsQ s b i).length
      · have h1 : (bfsQ s b i)[j]? = some e := by
          have := pre_get (bfs_pre (s := s) (b := b) (i := i)) (List.getElem?_eq_getElem hl)
          rw [he] at this; cases this
          exact List.getElem?_eq_getElem hl
        obtain ⟨v, hv⟩ := Option.isSome_iff_exists.1 (bfs_closed i j hji e h1 n hn)
        rw [pre_mget bfs_pre hv]; rfl
      · -- nothing was added
        have hno : (bfsQ s b i)[i]? = none := List.getElem?_eq_none (by omega)
        rw [bfsQ.eq_2, hno] at he
        simp only at he
        rw [List.getElem?_eq_none (by omega)] at he
        cases he
    · obtain rfl : j = i := by omega
      cases hq : (bfsQ s b j)[j]? with
      | none =>
        rw [bfsQ.eq_2, hq] at he
        simp only at he
        rw [hq] at he
        cases he
      | some e' =>
        have h2 := pre_get (bfs_pre (s := s) (b := b) (i := j)) hq
        rw [he] at h2
        cases h2
        rw [bfsQ.eq_2, hq]
        obtain ⟨k, hk, rfl⟩ := List.getElem_of_mem hn
        exact rowQ_seen _ k _ hk (List.getElem?_eq_getElem hk)
theorem bfs_stay {i : Nat} (h : (bfsQ s b i).length ≤ i) : ∀ k, bfsQ s b (i + k) = bfsQ s b i
  | 0 => rfl
  | k + 1 => by
    have := bfs_stay h k
    show bfsQ s b ((i + k) + 1) = _
    rw [bfsQ.eq_2, this, List.getElem?_eq_none (by omega)]
theorem good_len (hm : small s) (h : GoodQ s b q) : q.length ≤ 64 := by
  have h1 : ((q.map (·.1)).map fun k => k.1.toNat + 8 * k.2.toNat).Nodup := by
    rw [List.nodup_iff_pairwise_ne, List.pairwise_map]
    have h2 := h.nd
    rw [List.nodup_iff_pairwise_ne] at h2
    refine (List.pairwise_iff_forall_sublist.2 fun {x y} hxy => ?_)
    have h3 := List.pairwise_iff_forall_sublist.1 h2 hxy
    intro e
    refine h3 ?_
    have hx : x ∈ q.map (·.1) := hxy.subset (by simp)
    have hy : y ∈ q.map (·.1) := hxy.subset (by simp)
    obtain ⟨ex, hex, rfl⟩ := List.mem_map.1 hx
    obtain ⟨ey, hey, rfl⟩ := List.mem_map.1 hy
    have f1 := in8_has hm (h.fr _ hex).1
    have f2 := in8_has hm (h.fr _ hey).1
    refine Prod.ext ?_ ?_ <;> omega
  have h2 := nodup_len 64 _ h1 (fun x hx => by
    simp only [List.map_map, List.mem_map, Function.comp] at hx
    obtain ⟨e, he, rfl⟩ := hx
    have := in8_has hm (h.fr _ he).1
    omega)
  simpa using h2
/-- All that is reached, with its distance. -/
noncomputable def allQ (s : SheetM) (b : SpotM) : QL := bfsQ s b 64
theorem allQ_of {i : Nat} (h : (bfsQ s b i).length ≤ i) (hi : i ≤ 64) : allQ s b = bfsQ s b i := by
  have := bfs_stay h (64 - i)
  rw [show i + (64 - i) = 64 by omega] at this
  exact this
theorem allQ_good (hb : freeP s b.x b.y) : GoodQ s b (allQ s b) := bfs_good hb 64
theorem allQ_closed (hm : small s) (hb : freeP s b.x b.y) : ∀ e ∈ allQ s b, ∀ n ∈ nbrs s e.1.1 e.1.2, (mget (allQ s b) (ky n)).isSome = true := by
  intro e he n hn
  obtain ⟨j, hj, rfl⟩ := List.getElem_of_mem he
  have := good_len hm (allQ_good hb)
  exact bfs_closed 64 j (by omega) _ (List.getElem?_eq_getElem hj) n hn

/-! ### The way back -/
def befB (p q : SpotM) : Bool := decide (p.y < q.y ∨ (p.y = q.y ∧ p.x < q.x))
def pickM (o : Option SpotM) (n : SpotM) : Option SpotM := match o with
  | none => some n
  | some m => if befB n m then some n else some m
def minL (L : List SpotM) : Option SpotM := L.foldl pickM none
theorem pick_mem : ∀ (L : List SpotM) (o : Option SpotM) (m : SpotM), L.foldl pickM o = some m → m ∈ L ∨ o = some m
  | [], _, _, h => .inr h
  | n :: L, o, m, h => by
    rcases pick_mem L _ m h with h1 | h1
    · exact .inl (List.mem_cons_of_mem _ h1)
    · cases o with
      | none => simp only [pickM] at h1; cases h1; exact .inl List.mem_cons_self
      | some u =>
        simp only [pickM] at h1
        split at h1
        · cases h1; exact .inl List.mem_cons_self
        · exact .inr h1
theorem pick_some : ∀ (L : List SpotM) (o : Option SpotM), (L ≠ [] ∨ o.isSome = true) → (L.foldl pickM o).isSome = true
  | [], o, h => by rcases h with h | h; · exact absurd rfl h
                   · exact h
  | n :: L, o, _ => pick_some L _ (.inr (by cases o with | none => rfl | some u => simp only [pickM]; split <;> rfl))
def keepN (q : QL) (d : Int) (n : SpotM) : Bool := decide (mget q (ky n) = some (d - 1))
noncomputable def aheadL (s : SheetM) (q : QL) (d : Int) (a : SpotM) : List SpotM := (nbrs s a.x a.y).filter (keepN q d)
noncomputable def nextP (s : SheetM) (q : QL) (d : Int) (a : SpotM) : SpotM := (minL (aheadL s q d a)).getD a
theorem nbrs_sym {p n : SpotM} (h : n ∈ nbrs s p.x p.y) (hp : freeP s p.x p.y) : p ∈ nbrs s n.x n.y := by
  obtain ⟨h1, _⟩ := List.mem_filter.1 h
  refine List.mem_filter.2 ⟨?_, decide_eq_true hp⟩
  simp only [besideL, List.mem_cons, List.not_mem_nil, or_false] at h1 ⊢
  rcases h1 with rfl | rfl | rfl | rfl
  · right; right; left; cases p; simp
  · right; right; right; cases p; simp
  · left; cases p; simp
  · right; left; cases p; simp
theorem good_zero (h : GoodQ s b q) {a : SpotM} {d : Int} (ha : mget q (ky a) = some d) : 0 ≤ d ∧ (d = 0 ↔ a = b) := by
  have hm := mget_mem ha
  obtain ⟨j, hj, he⟩ := List.getElem_of_mem hm
  have hx := h.ix j _ (by rw [List.getElem?_eq_getElem hj, he])
  refine ⟨hx.1, fun hd => ?_, fun e => ?_⟩
  · subst hd
    rcases h.par _ hm with h1 | ⟨p, h1, h2, _⟩
    · exact ky_inj h1
    · obtain ⟨j', hj', he'⟩ := List.getElem_of_mem h1
      have := h.ix j' p (by rw [List.getElem?_eq_getElem hj', he'])
      simp only at h2
      omega
  · subst e
    have h1 := mget_of h.nd _ (List.mem_of_getElem? h.b0)
    simp only at h1
    rw [ha] at h1
    exact (Option.some.inj h1)
theorem ahead_ne (h : GoodQ s b q) {a : SpotM} {d : Int} (ha : mget q (ky a) = some d) (hd : d ≠ 0) : aheadL s q d a ≠ [] := by
  have hm := mget_mem ha
  rcases h.par _ hm with h1 | ⟨p, h1, h2, h3⟩
  · exact absurd ((good_zero h ha).2.2 (ky_inj h1)) hd
  · have h4 : spO p ∈ nbrs s a.x a.y := nbrs_sym (p := spO p) (n := a) h3 (h.fr p h1)
    have h5 : keepN q d (spO p) = true := by
      unfold keepN
      rw [ky_spO, mget_of h.nd p h1, h2]
      exact decide_eq_true rfl
    intro e
    have : spO p ∈ aheadL s q d a := List.mem_filter.2 ⟨h4, h5⟩
    rw [e] at this
    simp at this
theorem next_min {d : Int} {a : SpotM} (h : aheadL s q d a ≠ []) : minL (aheadL s q d a) = some (nextP s q d a) ∧ nextP s q d a ∈ aheadL s q d a := by
  have h1 := pick_some (aheadL s q d a) none (.inl h)
  obtain ⟨m, hm⟩ := Option.isSome_iff_exists.1 h1
  have e : nextP s q d a = m := by unfold nextP minL; rw [hm]; rfl
  rw [e]
  refine ⟨hm, ?_⟩
  rcases pick_mem _ _ _ hm with h2 | h2
  · exact h2
  · cases h2
theorem next_dist {d : Int} {a : SpotM} (h : aheadL s q d a ≠ []) : mget q (ky (nextP s q d a)) = some (d - 1) ∧ nextP s q d a ∈ nbrs s a.x a.y := by
  obtain ⟨h1, h2⟩ := List.mem_filter.1 (next_min h).2
  exact ⟨of_decide_eq_true h2, h1⟩
noncomputable def wkM (s : SheetM) (q : QL) (a : SpotM) (D : Int) : Nat → SpotM
  | 0 => a
  | k + 1 => nextP s q (D - k) (wkM s q a D k)
theorem wk_dist (h : GoodQ s b q) {a : SpotM} {D : Int} (ha : mget q (ky a) = some D) : ∀ k : Nat, (k : Int) ≤ D → mget q (ky (wkM s q a D k)) = some (D - k)
  | 0, _ => by simpa [wkM] using ha
  | k + 1, hk => by
    have := wk_dist h ha k (by omega)
    have h1 := (next_dist (ahead_ne h this (by omega))).1
    rw [wkM, h1]
    congr 1
    omega
theorem wk_end (h : GoodQ s b q) {a : SpotM} {D : Int} (ha : mget q (ky a) = some D) {k : Nat} (hk : (k : Int) ≤ D) : wkM s q a D k = b ↔ (k : Int) = D := by
  have h1 := (good_zero h (wk_dist h ha k hk)).2
  rw [← h1]
  omega
theorem wk_free (h : GoodQ s b q) {a : SpotM} {D : Int} (ha : mget q (ky a) = some D) {k : Nat} (hk : (k : Int) ≤ D) : freeP s (wkM s q a D k).x (wkM s q a D k).y :=
  h.fr _ (mget_mem (wk_dist h ha k hk))
noncomputable def wayTo (s : SheetM) (q : QL) (a : SpotM) (D : Int) (k : Nat) : List SpotM := (List.range k).map (wkM s q a D)
theorem way_len {a : SpotM} {D : Int} {k : Nat} : (wayTo s q a D k).length = k := by simp [wayTo]
theorem way_succ {a : SpotM} {D : Int} {k : Nat} : wayTo s q a D (k + 1) = wayTo s q a D k ++ [wkM s q a D k] := by simp [wayTo, List.range_succ]

/-! ### The distances as a table -/
def stepsF (q : QL) : Nat → Nat → Int := fun y x => if y < 8 ∧ x < 8 then (mget q ((x : Int), (y : Int))).getD (-1) else 0
theorem steps_at {p : SpotM} (h8 : in8 p.x p.y) : stepsF q p.y.toNat p.x.toNat = (mget q (ky p)).getD (-1) := by
  unfold stepsF
  rw [if_pos (by omega), Int.toNat_of_nonneg h8.1.1, Int.toNat_of_nonneg h8.2.1]
  rfl
theorem steps_push {p : SpotM} {d : Int} (h8 : in8 p.x p.y) (hn : mget q (ky p) = none) : u2 (stepsF q) p.y.toNat p.x.toNat d = stepsF (q ++ [(ky p, d)]) := by
  funext y x
  unfold u2 stepsF
  by_cases hy : y = p.y.toNat
  · by_cases hx : x = p.x.toNat
    · subst hy; subst hx
      rw [Int.toNat_of_nonneg h8.1.1, Int.toNat_of_nonneg h8.2.1, show ((p.x, p.y) : Int × Int) = ky p from rfl, mget_append_none hn]
      simp [mget, u1]
      omega
    · subst hy
      have hne : ky p ≠ ((x : Int), ((p.y.toNat : Nat) : Int)) := fun e => hx (by have := congrArg Prod.fst e; simp only [ky] at this; omega)
      simp only [u1, if_true, if_neg hx]
      cases hg : mget q ((x : Int), ((p.y.toNat : Nat) : Int)) with
      | some v => rw [mget_append_some hg]
      | none => rw [mget_append_none hg]; simp only [mget, if_neg hne]
  · have hne : ky p ≠ ((x : Int), (y : Int)) := fun e => hy (by have := congrArg Prod.snd e; simp only [ky] at this; omega)
    simp only [u1, if_neg hy]
    cases hg : mget q ((x : Int), (y : Int)) with
    | some v => rw [mget_append_some hg]
    | none => rw [mget_append_none hg]; simp only [mget, if_neg hne]
end
end Ink
/- The table of distances, laid out. No conditions. -/
namespace Ink
open Go
def mns (y x : Nat) : Nat → Nat → Int := fun Y X => if X < 8 ∧ (Y < y ∨ (Y = y ∧ X < x)) then -1 else 0
theorem mns_succ {y x : Nat} (hx : x < 8) : u2 (mns y x) y x (-1) = mns y (x + 1) := by
  funext Y X
  unfold u2 u1 mns
  by_cases hY : Y = y
  · rw [if_pos hY]
    by_cases hX : X = x
    · rw [if_pos hX, if_pos ⟨by omega, .inr ⟨hY, by omega⟩⟩]
    · rw [if_neg hX]
      by_cases h : X < 8 ∧ (y < y ∨ (y = y ∧ X < x))
      · rw [if_pos h, if_pos ⟨h.1, .inr ⟨hY, by omega⟩⟩]
      · rw [if_neg h, if_neg (by omega)]
  · rw [if_neg hY]
    by_cases h : X < 8 ∧ (Y < y ∨ (Y = y ∧ X < x))
    · rw [if_pos h, if_pos (by omega)]
    · rw [if_neg h, if_neg (by omega)]
theorem mns_row {y : Nat} : mns y 8 = mns (y + 1) 0 := by
  funext Y X
  unfold mns
  by_cases h : X < 8 ∧ (Y < y ∨ (Y = y ∧ X < 8))
  · rw [if_pos h, if_pos (by omega)]
  · rw [if_neg h, if_neg (by omega)]
theorem mns_zero : mns 0 0 = fun _ _ => 0 := by
  funext Y X
  unfold mns
  rw [if_neg (by omega)]
theorem mns_all : mns 8 0 = stepsF [] := by
  funext Y X
  unfold mns stepsF
  by_cases h : Y < 8 ∧ X < 8
  · rw [if_pos h, if_pos (by omega)]; rfl
  · rw [if_neg h, if_neg (by omega)]
theorem steps_first {b : SpotM} (h8 : in8 b.x b.y) : u2 (stepsF []) b.y.toNat b.x.toNat 0 = stepsF [(ky b, 0)] := steps_push h8 rfl
theorem queL_len {q : QL} : (queL q).length = q.length := by simp [queL]
theorem queV_len {q : QL} : ((queL q).map spotV).length = q.length := by simp [queL]
theorem queV_get {q : QL} {i : Nat} {e : (Int × Int) × Int} (h : q[i]? = some e) : ((queL q).map spotV)[i]? = some (spotD e.1.1 e.1.2) := by
  simp [queL, h, spotV, spO]
theorem queV_push {q : QL} {p : SpotM} {d : Int} : (queL (q ++ [(ky p, d)])).map spotV = (queL q).map spotV ++ [spotD p.x p.y] := by
  simp [queL, spotV, spO, ky]
theorem steps_b {q : QL} {p : SpotM} (h8 : in8 p.x p.y) (hq : ∀ e ∈ q, 0 ≤ e.2) : decide (stepsF q p.y.toNat p.x.toNat < 0) = !(mget q (ky p)).isSome := by
  rw [steps_at h8]
  cases h : mget q (ky p) with
  | none => rfl
  | some d =>
    have := hq _ (mget_mem h)
    simp only [Option.getD_some, Option.isSome_some, Bool.not_true, decide_eq_false_iff_not]
    simp only at this
    omega
theorem rowQ_succ {d : Int} {L : List SpotM} {q : QL} {k : Nat} {n : SpotM} (h : L[k]? = some n) : rowQ d L q (k + 1) = visit d (rowQ d L q k) n := by rw [rowQ, h]
theorem visit_yes {d : Int} {q : QL} {n : SpotM} {v : Int} (h : mget q (ky n) = some v) : visit d q n = q := by unfold visit; rw [h]; rfl
theorem visit_no {d : Int} {q : QL} {n : SpotM} (h : mget q (ky n) = none) : visit d q n = q ++ [(ky n, d + 1)] := by unfold visit; rw [h]; rfl
theorem bfs_succ {s : SheetM} {b : SpotM} {i : Nat} {e : (Int × Int) × Int} (h : (bfsQ s b i)[i]? = some e) : bfsQ s b (i + 1) = rowQ e.2 (nbrs s e.1.1 e.1.2) (bfsQ s b i) (nbrs s e.1.1 e.1.2).length := by rw [bfsQ.eq_2, h]
end Ink
/- The best of the next cells; what a path between two cells answers. No conditions. -/
namespace Ink
open Go
def nearTo (q : QL) (d : Int) (N : List SpotM) (m : Nat) : Option SpotM := ((N.take m).filter (keepN q d)).foldl pickM none
def nearV : Option SpotM → DV
  | none => spotD (-1) 0
  | some u => spotD u.x u.y
section
variable {q : QL} {d : Int} {N : List SpotM} {m : Nat} {n : SpotM}
theorem nearTo_zero : nearTo q d N 0 = none := by simp [nearTo]
theorem nearTo_no (h : N[m]? = some n) (hk : keepN q d n = false) : nearTo q d N (m + 1) = nearTo q d N m := by
  obtain ⟨h1, h2⟩ := List.getElem?_eq_some_iff.1 h
  unfold nearTo
  rw [List.take_succ_eq_append_getElem h1, h2, List.filter_append]
  simp [hk]
theorem nearTo_yes (h : N[m]? = some n) (hk : keepN q d n = true) : nearTo q d N (m + 1) = pickM (nearTo q d N m) n := by
  obtain ⟨h1, h2⟩ := List.getElem?_eq_some_iff.1 h
  unfold nearTo
  rw [List.take_succ_eq_append_getElem h1, h2, List.filter_append, List.foldl_append]
  simp [hk]
theorem nearTo_all : nearTo q d N N.length = minL (N.filter (keepN q d)) := by unfold nearTo minL; rw [List.take_length]
theorem nearTo_mem {u : SpotM} (h : nearTo q d N m = some u) : u ∈ N := by
  rcases pick_mem _ _ _ h with h1 | h1
  · exact List.mem_of_mem_take (List.mem_filter.1 h1).1
  · cases h1
theorem pick_n (n : SpotM) : pickM none n = some n := rfl
theorem pick_y {u n : SpotM} (h : befB n u = true) : pickM (some u) n = some n := by simp [pickM, h]
theorem pick_o {u n : SpotM} (h : befB n u = false) : pickM (some u) n = some u := by simp [pickM, h]
end
open Classical in
noncomputable def pathC (s : SheetM) (a b : SpotM) : Int :=
  if ¬ validS s then 1 else if ¬ (hasP s a.x a.y ∧ hasP s b.x b.y) then 2 else if waxP s a.x a.y ∨ waxP s b.x b.y then 4 else if mget (allQ s b) (ky a) = none then 6 else 0
section
variable {s : SheetM} {a b : SpotM}
theorem pathC_1 (h : ¬ validS s) : pathC s a b = 1 := by unfold pathC; rw [if_pos h]
theorem pathC_2 (h : validS s) (h2 : ¬ (hasP s a.x a.y ∧ hasP s b.x b.y)) : pathC s a b = 2 := by unfold pathC; rw [if_neg (fun g => g h), if_pos h2]
theorem pathC_4 (h : validS s) (h2 : hasP s a.x a.y ∧ hasP s b.x b.y) (h3 : waxP s a.x a.y ∨ waxP s b.x b.y) : pathC s a b = 4 := by unfold pathC; rw [if_neg (fun g => g h), if_neg (fun g => g h2), if_pos h3]
theorem pathC_6 (h : validS s) (h2 : hasP s a.x a.y ∧ hasP s b.x b.y) (h3 : ¬ (waxP s a.x a.y ∨ waxP s b.x b.y)) (h4 : mget (allQ s b) (ky a) = none) : pathC s a b = 6 := by unfold pathC; rw [if_neg (fun g => g h), if_neg (fun g => g h2), if_neg h3, if_pos h4]
theorem path_cases (s : SheetM) (a b : SpotM) : (∃ D, validS s ∧ freeP s a.x a.y ∧ freeP s b.x b.y ∧ mget (allQ s b) (ky a) = some D) ∨ (∃ c, pathC s a b = c ∧ c ≠ 0) := by
  by_cases hv : validS s
  · by_cases h2 : hasP s a.x a.y ∧ hasP s b.x b.y
    · by_cases h3 : waxP s a.x a.y ∨ waxP s b.x b.y
      · exact .inr ⟨4, pathC_4 hv h2 h3, by decide⟩
      · cases h4 : mget (allQ s b) (ky a) with
        | none => exact .inr ⟨6, pathC_6 hv h2 h3 h4, by decide⟩
        | some D => exact .inl ⟨D, hv, ⟨h2.1, fun h => h3 (.inl h)⟩, ⟨h2.2, fun h => h3 (.inr h)⟩, rfl⟩
    · exact .inr ⟨2, pathC_2 hv h2, by decide⟩
  · exact .inr ⟨1, pathC_1 hv, by decide⟩
theorem good_le (hm : small s) {q : QL} (h : GoodQ s b q) {k : Int × Int} {d : Int} (hk : mget q k = some d) : 0 ≤ d ∧ d ≤ 63 := by
  obtain ⟨j, hj, he⟩ := List.getElem_of_mem (mget_mem hk)
  have h1 := h.ix j _ (by rw [List.getElem?_eq_getElem hj, he])
  have h2 := good_len hm h
  simp only at h1
  omega
end
end Ink
/- The least of a list; a result that shows less of its block. No conditions. -/
namespace Ink
open Go
theorem ACall.lessSeq {P : Program} {W : List Nat} {f : FuncId} {args : List AV} {H A : Heap} {v : AV} {e : Sh} {l r : List DV} (h : ACall P W f args H v (A ++ [.seq true e (l ++ r)])) : ACall P W f args H v (A ++ [.seq true e l]) := by
  refine ⟨h.1, fun ρ w vs hR hA => (h.2 ρ w vs hR hA).mono ?_⟩
  rintro en w' ⟨x, ρ', rfl, hi, hx⟩
  have hs : shs (A ++ [.seq true e (l ++ r)]) = shs (A ++ [.seq true e l]) := by simp [shs, Blk.sh]
  refine ⟨x, ρ', rfl, ⟨⟨fun i B hB => ?_, fun i j B C hB hC hne hw hl => ?_⟩, hi.os, hi.tape, hi.out, hi.size, hi.old, hi.sz, hi.pre, fun i h1 h2 => hi.new i h1 (by simpa using h2), by rw [← hs]; exact hi.sh⟩, by rw [← hs]; exact hx⟩
  · rw [← hs]
    by_cases hl : i < A.length
    · exact hi.rel.blk i B (by rw [List.getElem?_append_left hl] at hB ⊢; exact hB)
    · have hil : i = A.length := by have := get_lt hB; simp at this; omega
      subst hil
      have hb := hi.rel.blk A.length (.seq true e (l ++ r)) (by simp)
      simp at hB
      subst hB
      obtain ⟨h1, c, T, fz, h2, h3, h4⟩ := hb
      refine ⟨fun x hx => h1 x (List.mem_append_left _ hx), c, T, fz, h2, ?_, h4⟩
      rw [List.flatMap_append] at h3
      exact (List.prefix_append _ _).trans h3
  · have up : ∀ (k : Nat) (X : Blk), (A ++ [.seq true e l])[k]? = some X → ∃ Y, (A ++ [.seq true e (l ++ r)])[k]? = some Y ∧ Y.wr = X.wr ∧ Y.lv = X.lv := by
      intro k X hX
      by_cases hl : k < A.length
      · exact ⟨X, by rw [List.getElem?_append_left hl] at hX ⊢; exact hX, rfl, rfl⟩
      · have hil : k = A.length := by have := get_lt hX; simp at this; omega
        subst hil
        simp at hX
        subst hX
        exact ⟨.seq true e (l ++ r), by simp, rfl, rfl⟩
    obtain ⟨B', h1, h2, _⟩ := up i B hB
    obtain ⟨C', h3, _, h4⟩ := up j C hC
    exact hi.rel.sep i j B' C' h1 h3 hne (by rw [h2]; exact hw) (by rw [h4]; exact hl)
def minTo (L : List SpotM) (i : Nat) : SpotM := ((L.take i).foldl pickM none).getD ⟨0, 0⟩
theorem minTo_one {L : List SpotM} {p : SpotM} (h : L[0]? = some p) : minTo L 1 = p := by
  cases L with
  | nil => simp at h
  | cons q L => simp at h; subst h; simp [minTo, pickM]
theorem minTo_is {L : List SpotM} : ∀ {i : Nat}, 1 ≤ i → i ≤ L.length → (L.take i).foldl pickM none = some (minTo L i) := by
  intro i h1 h2
  have := pick_some (L.take i) none (.inl (by intro e; have := congrArg List.length e; rw [List.length_take, List.length_nil] at this; omega))
  obtain ⟨m, hm⟩ := Option.isSome_iff_exists.1 this
  unfold minTo; rw [hm]; rfl
theorem minTo_succ {L : List SpotM} {i : Nat} {n : SpotM} (h1 : 1 ≤ i) (h : L[i]? = some n) : minTo L (i + 1) = if befB n (minTo L i) then n else minTo L i := by
  obtain ⟨h2, h3⟩ := List.getElem?_eq_some_iff.1 h
  have hm := minTo_is h1 (Nat.le_of_lt h2)
  show ((L.take (i + 1)).foldl pickM none).getD _ = _
  rw [List.take_succ_eq_append_getElem h2, h3, List.foldl_append, hm]
  simp only [List.foldl_cons, List.foldl_nil, pickM]
  split <;> rfl
theorem minTo_all {L : List SpotM} {m : SpotM} (h : minL L = some m) : minTo L L.length = m := by
  unfold minTo; rw [List.take_length]; unfold minL at h; rw [h]; rfl
theorem ord_bef {p q : SpotM} : decide (ordI p.x p.y q.x q.y < 0) = befB p q := by
  unfold befB
  refine decide_eq_decide.2 ?_
  unfold ordI orI cmpI
  repeat' split
  all_goals omega
end Ink
/- One continuation for many ends. No conditions. -/
namespace Ink
open Go
theorem share {C : Ctx} {n : Nat} {W : List Nat} {E0 : Env} {H0 : Heap} {G : Prop} {c : Code} {Q : AEx → Env → Heap → Prop} (h : (∀ E H, WeakS n E H E0 H0 → acode C n W (.loop c) E H Q) → G) (k : ∀ E H, WeakS n E H E0 H0 → acode C n W (.loop c) E H Q) : G := h k
end Ink
namespace Ink
open Go
theorem path_casesL (s : SheetM) (a b : SpotM) : (∃ D, ∃ L : List SpotM, validS s ∧ freeP s a.x a.y ∧ freeP s b.x b.y ∧ mget (allQ s b) (ky a) = some D ∧ wayTo s (allQ s b) a D (D.toNat + 1) = L ∧ L.length ≤ 1000) ∨ (∃ c, pathC s a b = c ∧ c ≠ 0) := by
  rcases path_cases s a b with ⟨D, hv, fa, fb, hD⟩ | h
  · have := good_le (valid_small hv) (allQ_good fb) hD
    exact .inl ⟨D, _, hv, fa, fb, hD, rfl, by rw [way_len]; omega⟩
  · exact .inr h
end Ink
