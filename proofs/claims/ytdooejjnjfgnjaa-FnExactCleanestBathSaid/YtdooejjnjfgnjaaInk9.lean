/- append, make, composite literals, '==' on data: what each does to the abstract state. No conditions. -/
import Derived.Test.YtdooejjnjfgnjaaInk8
set_option linter.unusedVariables false
set_option linter.unusedSimpArgs false
namespace Ink
open Go

theorem layA_size {c : Array Value} {o : Nat} {vs : List Value} (h : o + vs.length ≤ c.size) : (layA c o vs).size = c.size := by
  simp only [layA, List.size_toArray]
  rw [lay_length (by simpa using h)]
  simp

section
variable {P : Program} {G : Ent} {o : Oper} {look : Tmp → AV} {H : Heap}

theorem prefix_at {α : Type} {l l' : List α} {o n : Nat} (h : l <+: l') (hn : o + n ≤ l.length) : LiesAt l' o ((l.drop o).take n) := (LiesAt.take_drop hn).upto h

/-- The cells that a slice shows. -/
theorem slc_cells {ρ w b wr e l lo m} (hr : Rel ρ H w) (hb : H[b]? = some (.seq wr e l)) (hm : lo + m ≤ l.length) :
    ∃ c T fz, w.heap[ρ b]? = some (.cells c T fz) ∧ (∀ x ∈ l, Has e x) ∧ (l.flatMap (flat e)) <+: c.toList ∧ ((wr = true) → fz = (0, 0)) ∧ LiesAt c.toList (lo * e.size) (((l.drop lo).take m).flatMap (flat e)) ∧ (((l.drop lo).take m).flatMap (flat e)).length = m * e.size := by
  obtain ⟨h, c, T, fz, hc, hp, hz⟩ := hr.blk b _ hb
  have h' : ∀ x ∈ l.drop lo, Has e x := fun x hx => h x (List.mem_of_mem_drop hx)
  have e1 : ((l.drop lo).take m).flatMap (flat e) = ((l.flatMap (flat e)).drop (lo * e.size)).take (m * e.size) := by rw [flatMap_take h', flatMap_drop h]
  have hle : lo * e.size + m * e.size ≤ (l.flatMap (flat e)).length := by
    rw [flatMap_len h, ← Nat.add_mul]
    exact Nat.mul_le_mul_right _ hm
  refine ⟨c, T, fz, hc, h, hp, hz, ?_, ?_⟩
  · rw [e1]; exact prefix_at hp hle
  · rw [e1, List.length_take, List.length_drop]; omega

theorem nextcap_ok {need old bytes : Nat} (h : old < need) (hn : need ≤ 1000000) (hb : bytes ≤ 65536) : Builtin.nextslicecap need old * bytes ≤ 281474976710656 := by
  refine growslice_fits h ?_
  have : need * bytes ≤ 1000000 * 65536 := Nat.mul_le_mul hn hb
  omega

theorem zeroCells_size (z : Array Value) (n : Nat) : (Builtin.zeroCells z n).size = n * z.size := by simp [Builtin.zeroCells]

theorem step_append {t t' : TypeId} {x y : Operand} {b b2 lo2 n m : Nat} {wr : Bool} {e : Sh} {l l2 : List DV} (ho : o.op = .call ⟨.builtin .append, #[x, y], #[t, t']⟩) (hx : ev look x = .slc b 0 n) (hy : ev look y = .slc b2 lo2 m)
    (ht : SlOk P t e) (ht' : SlOk P t' e) (hb : H[b]? = some (.seq true e l)) (hb2 : H[b2]? = some (.seq wr e l2)) (hn : n ≤ l.length) (hm : lo2 + m ≤ l2.length) (hown : G.S.length ≤ b) (hlim : n + m ≤ 1000000) :
    OpStep P G o look H (.slc H.length 0 (n + m)) (H.set b (.dead (.seq e)) ++ [.seq true e (l.take n ++ (l2.drop lo2).take m)]) := by
  intro ρ a w K Q hi he hk
  have hrx := he.ev (x := x) (by simp [ho, Op.operands, Call.operands])
  have hry := he.ev (x := y) (by simp [ho, Op.operands, Call.operands])
  rw [hx] at hrx; rw [hy] at hry
  obtain ⟨et, hu, hte, hne⟩ := ht
  obtain ⟨et', hu', hte', _⟩ := ht'
  obtain ⟨ti, hti, hts, htz, htb⟩ := hte.info
  obtain ⟨c, T, fz, hc, hl, hp, hz, hat, hatl⟩ := slc_cells (lo := 0) (m := n) hi.rel hb (by omega)
  obtain ⟨c2, T2, fz2, hc2, hl2, hp2, _, hat2, hatl2⟩ := slc_cells hi.rel hb2 hm
  have hz := hz rfl
  subst hz
  simp only [List.drop_zero, Nat.zero_mul] at hat hatl
  generalize hnews : ((l2.drop lo2).take m).flatMap (flat e) = news at *
  generalize holds : (l.take n).flatMap (flat e) = olds at *
  have hone : ∀ u ∈ news, u.oneCell' = true := by rw [← hnews]; exact oneCell_flatMap
  have hHas : ∀ z ∈ l.take n ++ (l2.drop lo2).take m, Has e z := by
    intro z hz
    rcases List.mem_append.1 hz with hz | hz
    · exact hl z (List.mem_of_mem_take hz)
    · exact hl2 z (List.mem_of_mem_drop (List.mem_of_mem_take hz))
  have hcat : (l.take n ++ (l2.drop lo2).take m).flatMap (flat e) = olds ++ news := by rw [List.flatMap_append, holds, hnews]
  have hzs : (enc e e.zero).cells.size = e.size := by rw [enc_cells (Has_zero e)]; simp [flat_length (Has_zero e)]
  have hx2 : ∃ e', (shs H)[b]? = some (.seq e') := ⟨e, shs_get hb⟩
  -- the second slice's value
  obtain ⟨e2, hs2, hv2⟩ := hry
  rw [shs_get hb2] at hs2
  cases hs2
  obtain ⟨e1, hs1, hv1⟩ := hrx
  rw [shs_get hb] at hs1
  cases hs1
  have hsrc : ∃ ad cap2, a.eval y = .slice ad m cap2 ∧ ∀ w2, (∀ q, w2.cell? q = w.cell? q) → (Builtin.firstCells e.size m (.slice ad m cap2)).run P w2 = .ok news.toArray w2 := by
    rcases hv2 with ⟨cap2, k1, _, _⟩ | ⟨k0, ad, k1⟩
    · refine ⟨_, cap2, k1, fun w2 hw2 => ?_⟩
      refine run_firstCells_some (P := P) w2 e.size m ⟨ρ b2, lo2 * e.size, none⟩ m cap2 news hatl2 fun j v hv => ?_
      rw [hw2]
      exact cells_of hc2 hat2 j v hv
    · subst k0
      refine ⟨ad, 0, k1, fun w2 _ => ?_⟩
      have : news = [] := List.eq_nil_of_length_eq_zero (by rw [hatl2]; simp)
      subst this
      cases ad <;> simp [Builtin.firstCells, loadCells, loadCellsFrom]
  obtain ⟨ad2, cap2, hvy, hnew⟩ := hsrc
  have hnotint : ((TypeDesc.slice et') matches .int _) = false := rfl
  -- what follows
  have hgrow : ∀ (ad : Option Addr) (cap : Nat), a.eval x = .slice ad n cap → cap < n + m → (∀ w2, (∀ q, w2.cell? q = w.cell? q) → (Builtin.firstCells e.size n (.slice ad n cap)).run P w2 = .ok olds.toArray w2) → o.wp P a w K Q := by
    intro ad cap hvx hcap hold
    have hn0 : ¬ (n + m ≤ cap) := by omega
    have h63 : ¬ (9223372036854775807 < ((n : Int) + (m : Int))) := by omega
    have h48 : ¬ (281474976710656 < Builtin.nextslicecap (n + m) cap * ti.bytes) := by have := nextcap_ok (bytes := ti.bytes) hcap hlim htb; omega
    have h1 := hold w.drew fun _ => rfl
    have h2 := hnew w.drew fun _ => rfl
    have hge := grownCap_ge w (n + m) cap et
    let cells : Array Value := olds.toArray ++ (news.toArray ++ Builtin.zeroCells (enc e e.zero).cells (grownCap w (n + m) cap et - (n + m)))
    have hcells : cells.size = grownCap w (n + m) cap et * e.size := by
      simp only [cells, Array.size_append, List.size_toArray, zeroCells_size, hzs, hatl, hatl2, ← Nat.add_mul]
      congr 1
      omega
    have hrun : (execOp a.eval o).run P w = .ok (.value (.slice (some ⟨w.heap.size, 0, none⟩) (n + m) (grownCap w (n + m) cap et))) (World.push w.drew (.cells cells et)) := by
      rw [execOp.eq_1]
      simp [ho, resolve, invoke, builtin, hvx, hvy, Builtin.append_, run_underlying hu, run_underlying hu', Go.sizeOf, typeInfo, zeroValue, hti, hts, htz, Builtin.lenOf, hn0, h63, h48, Question.forced, h1, h2, newRow, grownCap]
      rfl
    unfold Oper.wp
    rw [hrun]
    have hi1 : Inv G ρ (H.set b (.dead (.seq e))) w.drew := (hi.kill (A := .seq true e l) hb).drew
    have hE1 : Ext ρ (shs H) w ρ (shs (H.set b (.dead (.seq e)))) w.drew := (Ext.kill (A := .seq true e l) hb).trans Ext.drew
    have hlen : (H.set b (.dead (.seq e))).length = H.length := by simp
    have hRB : ∀ ρ' S' w', RB ρ' S' w' (.seq true e (l.take n ++ (l2.drop lo2).take m)) (some (.cells cells et (0, 0))) := fun ρ' S' w' =>
      ⟨hHas, cells, et, (0, 0), rfl, by rw [hcat]; simp only [cells, Array.toList_append]; rw [← List.append_assoc]; exact List.prefix_append _ _, fun _ => rfl⟩
    have hi2 := hi1.push (hRB _ _ _)
    rw [hlen] at hi2
    refine hk _ _ _ hi2 (hE1.trans (by have := Ext.push (ρ := ρ) (H := H.set b (.dead (.seq e))) (w := w.drew) (.seq true e (l.take n ++ (l2.drop lo2).take m)) (.cells cells et); rwa [hlen] at this)) ?_
    refine ⟨e, by simp [shs, Blk.sh], .inl ⟨grownCap w (n + m) cap et, ?_, hge, ?_⟩⟩
    · rw [upd_same]; simp
    · rw [upd_same]
      have : (World.push w.drew (.cells cells et)).heap[w.drew.heap.size]? = some (.cells cells et) := by rw [push_heap, Array.getElem?_push, if_pos rfl]
      unfold bsz
      rw [this]
      show (0 + grownCap w (n + m) cap et) * e.size ≤ cells.size
      rw [hcells, Nat.zero_add]
      exact Nat.le_refl _
  rcases hv1 with ⟨cap, k1, k2, k3⟩ | ⟨k0, ad, k1⟩
  · by_cases hroom : n + m ≤ cap
    · have hbs : bsz w (ρ b) = c.size := by unfold bsz; rw [hc]
      rw [hbs, Nat.zero_add] at k3
      have hfit : n * e.size + news.length ≤ c.size := by
        rw [hatl2, ← Nat.add_mul]
        exact Nat.le_trans (Nat.mul_le_mul_right _ hroom) k3
      have h2 := hnew w fun _ => rfl
      have hst := run_storeCells (P := P) news w (ρ b) (n * e.size) 0 c T hc (by simpa using hfit) hone
      simp only [Nat.add_zero] at hst
      have hrun : (execOp a.eval o).run P w = .ok (.value (.slice (some ⟨ρ b, 0, none⟩) (n + m) cap)) (World.putBlock w (ρ b) (layA c (n * e.size) news)) := by
        rw [execOp.eq_1]
        simp only [Nat.zero_mul] at k1
        simp [ho, resolve, invoke, builtin, k1, hvy, Builtin.append_, run_underlying hu, run_underlying hu', Go.sizeOf, typeInfo, hti, hts, Builtin.lenOf, hroom, h2, add_addr, hst]
      unfold Oper.wp
      rw [hrun]
      have hsz := layA_size (c := c) (o := n * e.size) (vs := news) hfit
      have hpre : ((l.take n ++ (l2.drop lo2).take m).flatMap (flat e)) <+: (layA c (n * e.size) news).toList := by
        rw [hcat]
        simp only [layA, lay]
        have : c.toList.take (n * e.size) = olds := by
          obtain ⟨a', b', h1, h2⟩ := hat
          have : a' = [] := List.eq_nil_of_length_eq_zero h2
          subst this
          rw [h1, List.nil_append, ← hatl, List.take_left]
        rw [this]
        exact List.prefix_append _ _
      have hi2 := hi.alias hown hb hc hsz hHas hpre
      refine hk _ _ _ hi2 ?_ ?_
      · refine ⟨fun i h => upd_ne (by rw [shs_length] at h; omega), ?_, fun k => by rw [bsz_putBlock hc hsz]; exact Nat.le_refl _⟩
        rw [shs_append, shs_set (B := .dead (.seq e)) hb rfl]; exact List.prefix_append _ _
      · refine ⟨e, by simp [shs, Blk.sh], .inl ⟨cap, ?_, hroom, ?_⟩⟩
        · rw [upd_same]; simp
        · rw [upd_same, bsz_putBlock hc hsz, hbs, Nat.zero_add]; exact k3
    · simp only [Nat.zero_mul] at k1
      refine hgrow _ cap k1 (by omega) fun w2 hw2 => ?_
      refine run_firstCells_some (P := P) w2 e.size n ⟨ρ b, 0, none⟩ n cap olds hatl fun j v hv => ?_
      rw [hw2]
      exact cells_of hc hat j v hv
  · subst k0
    have ho0 : olds = [] := List.eq_nil_of_length_eq_zero (by rw [hatl]; simp)
    by_cases hm0 : m = 0
    · subst hm0
      have hn0 : news = [] := List.eq_nil_of_length_eq_zero (by rw [hatl2]; simp)
      have h2 := hnew w fun _ => rfl
      have hrun : (execOp a.eval o).run P w = .ok (.value (.slice ad 0 0)) w := by
        rw [execOp.eq_1]
        rw [hn0] at h2
        cases ad <;> simp [ho, resolve, invoke, builtin, k1, hvy, Builtin.append_, run_underlying hu, run_underlying hu', Go.sizeOf, typeInfo, hti, hts, Builtin.lenOf, h2, storeCells]
      unfold Oper.wp
      rw [hrun]
      have hpre : ((l.take 0 ++ (l2.drop lo2).take 0).flatMap (flat e)) <+: c.toList := by simp
      have hi2 := hi.alias hown hb hc rfl hHas hpre
      rw [putBlock_self w (ρ b) c T (0, 0) hc] at hi2
      refine hk _ _ _ hi2 ?_ ⟨e, by simp [shs, Blk.sh], .inr ⟨rfl, ad, rfl⟩⟩
      refine ⟨fun i h => upd_ne (by rw [shs_length] at h; omega), ?_, fun k => Nat.le_refl _⟩
      rw [shs_append, shs_set (B := .dead (.seq e)) hb rfl]; exact List.prefix_append _ _
    · refine hgrow ad 0 k1 (by omega) fun w2 _ => ?_
      rw [ho0]
      cases ad <;> simp [Builtin.firstCells, loadCells, loadCellsFrom]
end
end Ink
