/- Abstract values and blocks, how they stand to the model's values and memory, and what the model's memory operations do to that. No conditions. -/
import Derived.Test.YtdooejjnjfgnjaaInk1
import Derived.Laws.Rows
set_option linter.unusedVariables false
set_option linter.unusedSimpArgs false
namespace Ink
open Go

inductive AV where
  | int (k : IntKind) (n : Int)
  | bool (b : Bool)
  | str (s : ByteArray)
  | agg (τ : Sh) (v : DV)
  | ptr (b : Nat) (p : List Nat) (τ : Sh)
  | rptr (b : Nat)
  | nilp
  | nils
  | slc (b lo len : Nat)
  | fn (f : FuncId) (first captured : List AV)
  | tup (l : List AV)
  | junk

inductive BSh where
  | data (σ : Sh)
  | seq (e : Sh)
  | ref

def BSh.at? : BSh → List Nat → Option (Nat × Sh)
  | .data σ, p => σ.at? p
  | .seq e, i :: p => (e.at? p).map fun x => (i * e.size + x.1, x.2)
  | _, _ => none

inductive Blk where
  | data (σ : Sh) (v : DV)
  | seq (wr : Bool) (e : Sh) (l : List DV)
  | ref (x : AV)
  | dead (s : BSh)

def Blk.sh : Blk → BSh
  | .data σ _ => .data σ
  | .seq _ e _ => .seq e
  | .ref _ => .ref
  | .dead s => s
def Blk.wr : Blk → Bool
  | .data _ _ => true
  | .seq w _ _ => w
  | .ref _ => true
  | .dead _ => false
def Blk.lv : Blk → Bool
  | .dead _ => false
  | _ => true

abbrev Heap := List Blk
def shs (H : Heap) : List BSh := H.map Blk.sh

/-- How many cells a block has. -/
def bsz (w : World) (b : Nat) : Nat := match w.heap[b]? with
  | some (.cells c _ _) => c.size
  | _ => 0

mutual
def Rv (ρ : Nat → Nat) (S : List BSh) (w : World) : AV → Value → Prop
  | .int k n, x => x = .int k n
  | .bool b, x => x = .bool b
  | .str s, x => x = .string s
  | .agg τ v, x => τ.agg = true ∧ Has τ v ∧ x = .agg (flat τ v).toArray
  | .ptr b p τ, x => ∃ s o, S[b]? = some s ∧ s.at? p = some (o, τ) ∧ x = .pointer (some ⟨ρ b, o, none⟩)
  | .rptr b, x => S[b]? = some .ref ∧ x = .pointer (some ⟨ρ b, 0, none⟩)
  | .nilp, x => x = .pointer none
  | .nils, x => x = .slice none 0 0
  | .slc b lo len, x => ∃ e, S[b]? = some (.seq e) ∧
      ((∃ cap, x = .slice (some ⟨ρ b, lo * e.size, none⟩) len cap ∧ len ≤ cap ∧ (lo + cap) * e.size ≤ bsz w (ρ b)) ∨ (len = 0 ∧ ∃ a, x = .slice a 0 0))
  | .fn f first capt, x => ∃ vs ws, x = .func (.func f) vs.toArray ws.toArray ∧ Rvs ρ S w first vs ∧ Rvs ρ S w capt ws
  | .tup l, x => ∃ vs, x = .tuple vs.toArray ∧ Rvs ρ S w l vs
  | .junk, _ => True
def Rvs (ρ : Nat → Nat) (S : List BSh) (w : World) : List AV → List Value → Prop
  | [], [] => True
  | a :: l, v :: vs => Rv ρ S w a v ∧ Rvs ρ S w l vs
  | _, _ => False
end

/-- One block. -/
def RB (ρ : Nat → Nat) (S : List BSh) (w : World) : Blk → Option Obj → Prop
  | .data σ v, o => Has σ v ∧ ∃ T, o = some (.cells (flat σ v).toArray T (0, 0))
  | .seq wr e l, o => (∀ x ∈ l, Has e x) ∧ ∃ c T fz, o = some (.cells c T fz) ∧ (l.flatMap (flat e)) <+: c.toList ∧ (wr = true → fz = (0, 0))
  | .ref x, o => ∃ v T, o = some (.cells #[v] T (0, 0)) ∧ Rv ρ S w x v
  | .dead _, _ => True

structure Rel (ρ : Nat → Nat) (H : Heap) (w : World) : Prop where
  blk : ∀ i B, H[i]? = some B → RB ρ (shs H) w B w.heap[ρ i]?
  sep : ∀ i j A B, H[i]? = some A → H[j]? = some B → i ≠ j → A.wr = true → B.lv = true → ρ i ≠ ρ j

structure Ext (ρ : Nat → Nat) (S : List BSh) (w : World) (ρ' : Nat → Nat) (S' : List BSh) (w' : World) : Prop where
  ren : ∀ i, i < S.length → ρ' i = ρ i
  sh : S <+: S'
  sz : ∀ b, bsz w b ≤ bsz w' b

theorem Ext.refl (ρ S w) : Ext ρ S w ρ S w := ⟨fun _ _ => rfl, List.prefix_refl _, fun _ => Nat.le_refl _⟩
theorem Ext.trans {ρ S w ρ' S' w' ρ'' S'' w''} (h : Ext ρ S w ρ' S' w') (k : Ext ρ' S' w' ρ'' S'' w'') : Ext ρ S w ρ'' S'' w'' :=
  ⟨fun i hi => (k.ren i (Nat.lt_of_lt_of_le hi h.sh.length_le)).trans (h.ren i hi), h.sh.trans k.sh, fun b => Nat.le_trans (h.sz b) (k.sz b)⟩

theorem prefix_get {α : Type} {l l' : List α} {i : Nat} {x : α} (h : l <+: l') (hi : l[i]? = some x) : l'[i]? = some x := by
  obtain ⟨t, rfl⟩ := h
  rw [List.getElem?_append_left]
  · exact hi
  · exact (List.getElem?_eq_some_iff.1 hi).1
theorem get_lt {α : Type} {l : List α} {i : Nat} {x : α} (hi : l[i]? = some x) : i < l.length := (List.getElem?_eq_some_iff.1 hi).1

mutual
theorem Rv.mono {ρ S w ρ' S' w'} (h : Ext ρ S w ρ' S' w') : ∀ {a : AV} {v : Value}, Rv ρ S w a v → Rv ρ' S' w' a v
  | .int _ _, _, r => r
  | .bool _, _, r => r
  | .str _, _, r => r
  | .agg _ _, _, r => r
  | .ptr b p τ, _, r => by
    obtain ⟨s, o, h1, h2, h3⟩ := r
    exact ⟨s, o, prefix_get h.sh h1, h2, by rw [h.ren b (get_lt h1)]; exact h3⟩
  | .rptr b, _, r => by
    obtain ⟨h1, h3⟩ := r
    exact ⟨prefix_get h.sh h1, by rw [h.ren b (get_lt h1)]; exact h3⟩
  | .nilp, _, r => r
  | .nils, _, r => r
  | .slc b lo len, _, r => by
    obtain ⟨e, h1, h2⟩ := r
    refine ⟨e, prefix_get h.sh h1, ?_⟩
    rcases h2 with ⟨cap, h3, h4, h5⟩ | h2
    · exact .inl ⟨cap, by rw [h.ren b (get_lt h1)]; exact h3, h4, by rw [h.ren b (get_lt h1)]; exact Nat.le_trans h5 (h.sz _)⟩
    · exact .inr h2
  | .fn _ _ _, _, r => by
    obtain ⟨vs, ws, h1, h2, h3⟩ := r
    exact ⟨vs, ws, h1, Rvs.mono h h2, Rvs.mono h h3⟩
  | .tup _, _, r => by
    obtain ⟨vs, h1, h2⟩ := r
    exact ⟨vs, h1, Rvs.mono h h2⟩
  | .junk, _, _ => trivial
theorem Rvs.mono {ρ S w ρ' S' w'} (h : Ext ρ S w ρ' S' w') : ∀ {a : List AV} {v : List Value}, Rvs ρ S w a v → Rvs ρ' S' w' a v
  | [], [], r => r
  | _ :: _, _ :: _, r => ⟨Rv.mono h r.1, Rvs.mono h r.2⟩
  | [], _ :: _, r => r.elim
  | _ :: _, [], r => r.elim
end

theorem RB.mono {ρ S w ρ' S' w'} (h : Ext ρ S w ρ' S' w') {B : Blk} {o : Option Obj} (r : RB ρ S w B o) : RB ρ' S' w' B o := by
  cases B with
  | ref x => obtain ⟨v, T, h1, h2⟩ := r; exact ⟨v, T, h1, h2.mono h⟩
  | _ => exact r

theorem shs_get {H : Heap} {i : Nat} {B : Blk} (h : H[i]? = some B) : (shs H)[i]? = some B.sh := by simp [shs, h]
theorem shs_append {H K : Heap} : shs (H ++ K) = shs H ++ shs K := by simp [shs]
theorem shs_length {H : Heap} : (shs H).length = H.length := by simp [shs]
theorem shs_set {H : Heap} {i : Nat} {A B : Blk} (h : H[i]? = some A) (hs : B.sh = A.sh) : shs (H.set i B) = shs H := by
  simp only [shs, List.map_set]
  apply List.ext_getElem?
  intro j
  by_cases hj : i = j
  · subst hj
    rw [List.getElem?_set_self (by simpa using get_lt h)]
    simp [h, hs]
  · rw [List.getElem?_set_ne hj]

/-! ### New blocks -/
def World.push (w : World) (o : Obj) : World := { w with heap := w.heap.push o }
theorem push_heap (w : World) (o : Obj) : (World.push w o).heap = w.heap.push o := rfl
theorem bsz_push (w : World) (o : Obj) (b : Nat) : bsz w b ≤ bsz (World.push w o) b := by
  by_cases hb : b = w.heap.size
  · have : bsz w b = 0 := by unfold bsz; rw [Array.getElem?_eq_none (by omega)]
    omega
  · have : (World.push w o).heap[b]? = w.heap[b]? := by rw [push_heap, Array.getElem?_push, if_neg hb]
    unfold bsz
    rw [this]
    exact Nat.le_refl _

def upd (ρ : Nat → Nat) (i x : Nat) : Nat → Nat := fun j => if j = i then x else ρ j
theorem upd_same (ρ : Nat → Nat) (i x : Nat) : upd ρ i x i = x := by simp [upd]
theorem upd_ne {ρ : Nat → Nat} {i x j : Nat} (h : j ≠ i) : upd ρ i x j = ρ j := by simp [upd, h]

theorem Ext.push {ρ : Nat → Nat} {H : Heap} {w : World} (B : Blk) (o : Obj) : Ext ρ (shs H) w (upd ρ H.length w.heap.size) (shs (H ++ [B])) (World.push w o) :=
  ⟨fun i hi => upd_ne (by rw [shs_length] at hi; omega), by rw [shs_append]; exact List.prefix_append _ _, bsz_push w o⟩

theorem RB.lt {ρ S w} {B : Blk} {i : Nat} (h : RB ρ S w B w.heap[i]?) (hl : B.lv = true) : i < w.heap.size := by
  have : ∃ x, w.heap[i]? = some x := by
    cases B with
    | data σ v => obtain ⟨_, T, h⟩ := h; exact ⟨_, h⟩
    | seq wr e l => obtain ⟨_, c, T, fz, h, _⟩ := h; exact ⟨_, h⟩
    | ref x => obtain ⟨v, T, h, _⟩ := h; exact ⟨_, h⟩
    | dead s => cases hl
  obtain ⟨x, hx⟩ := this
  exact (Array.getElem?_eq_some_iff.1 hx).1

theorem Rel.push {ρ : Nat → Nat} {H : Heap} {w : World} (r : Rel ρ H w) {B : Blk} {o : Obj}
    (hB : RB (upd ρ H.length w.heap.size) (shs (H ++ [B])) (World.push w o) B (some o)) : Rel (upd ρ H.length w.heap.size) (H ++ [B]) (World.push w o) := by
  have keep : ∀ i A, H[i]? = some A → A.lv = true → (World.push w o).heap[ρ i]? = w.heap[ρ i]? := fun i A hi hl => by
    have := (r.blk i A hi).lt hl
    rw [push_heap, Array.getElem?_push, if_neg (by omega)]
  have get : ∀ i A, (H ++ [B])[i]? = some A → (H[i]? = some A ∧ i < H.length) ∨ (i = H.length ∧ A = B) := fun i A hi => by
    rcases Nat.lt_trichotomy i H.length with h | h | h
    · rw [List.getElem?_append_left h] at hi; exact .inl ⟨hi, h⟩
    · subst h; simp at hi; exact .inr ⟨rfl, hi.symm⟩
    · rw [List.getElem?_eq_none (by simp; omega)] at hi; cases hi
  constructor
  · intro i A hi
    rcases get i A hi with ⟨h, hl⟩ | ⟨rfl, rfl⟩
    · rw [upd_ne (by omega)]
      by_cases hlv : A.lv = true
      · rw [keep i A h hlv]
        exact (r.blk i A h).mono (Ext.push B o)
      · cases A <;> first | trivial | (exact absurd rfl hlv)
    · rw [upd_same, push_heap, Array.getElem?_push, if_pos rfl]
      exact hB
  · intro i j A C hi hj hne hw hl
    rcases get i A hi with ⟨hi', hil⟩ | ⟨rfl, rfl⟩ <;> rcases get j C hj with ⟨hj', hjl⟩ | ⟨rfl, rfl⟩
    · rw [upd_ne (by omega), upd_ne (by omega)]
      exact r.sep i j A C hi' hj' hne hw hl
    · rw [upd_ne (by omega), upd_same]
      have := (r.blk i A hi').lt (by cases A <;> first | rfl | cases hw)
      omega
    · rw [upd_same, upd_ne (by omega)]
      have := (r.blk j C hj').lt hl
      omega
    · exact absurd rfl hne

/-! ### Writing into a block -/
def World.putBlock (w : World) (b : Nat) (c : Array Value) : World :=
  { w with heap := w.heap.modify b fun
      | .cells _ T fz => .cells c T fz
      | o => o }
theorem putBlock_same {w : World} {b : Nat} {c c' : Array Value} {T : TypeId} {fz : Nat × Nat} (h : w.heap[b]? = some (.cells c T fz)) :
    (World.putBlock w b c').heap[b]? = some (.cells c' T fz) := by
  simp [World.putBlock, Array.getElem?_modify, h]
theorem putBlock_other {w : World} {b k : Nat} {c' : Array Value} (h : k ≠ b) : (World.putBlock w b c').heap[k]? = w.heap[k]? := by
  simp only [World.putBlock, Array.getElem?_modify]
  rw [if_neg (by omega)]
theorem putBlock_size {w : World} {b : Nat} {c' : Array Value} : (World.putBlock w b c').heap.size = w.heap.size := by simp [World.putBlock]

theorem bsz_putBlock {w : World} {b : Nat} {c c' : Array Value} {T : TypeId} {fz : Nat × Nat} (h : w.heap[b]? = some (.cells c T fz)) (hs : c'.size = c.size) (k : Nat) :
    bsz (World.putBlock w b c') k = bsz w k := by
  unfold bsz
  by_cases hk : k = b
  · subst hk
    rw [putBlock_same h, h]
    exact hs
  · rw [putBlock_other hk]

theorem setCell_cells (w : World) (b i : Nat) (c : Array Value) (T : TypeId) (fz : Nat × Nat) (v : Value) (h : w.heap[b]? = some (.cells c T fz)) :
    w.setCell ⟨b, i, none⟩ v = World.putBlock w b (c.setIfInBounds i v) := by
  unfold World.setCell World.putBlock
  congr 1
  have hb := (Array.getElem?_eq_some_iff.1 h).1
  apply Array.ext
  · simp
  · intro k h1 h2
    simp only [Array.getElem_modify]
    split
    · rename_i hk
      subst hk
      have : w.heap[b] = .cells c T fz := by simpa [hb] using h
      rw [this]
      simp
    · rfl

theorem putBlock_putBlock (w : World) (b : Nat) (c c' : Array Value) : World.putBlock (World.putBlock w b c) b c' = World.putBlock w b c' := by
  unfold World.putBlock
  congr 1
  apply Array.ext
  · simp
  · intro k h1 h2
    simp only [Array.getElem_modify]
    split
    · cases hw : w.heap[k]'(by simpa using h1) <;> rfl
    · rfl
theorem putBlock_self (w : World) (b : Nat) (c : Array Value) (T : TypeId) (fz : Nat × Nat) (h : w.heap[b]? = some (.cells c T fz)) : World.putBlock w b c = w := by
  unfold World.putBlock
  have : (w.heap.modify b fun | .cells _ T fz => .cells c T fz | o => o) = w.heap := by
    have hb := (Array.getElem?_eq_some_iff.1 h).1
    apply Array.ext
    · simp
    · intro k h1 h2
      simp only [Array.getElem_modify]
      split
      · rename_i hk
        subst hk
        have : w.heap[b] = .cells c T fz := by simpa [hb] using h
        rw [this]
      · rfl
  rw [this]

theorem add_addr (b o n : Nat) : (⟨b, o, none⟩ : Addr).add n = ⟨b, o + n, none⟩ := by
  unfold Addr.add
  split
  · simp_all
  · rfl

def layA (c : Array Value) (o : Nat) (vs : List Value) : Array Value := (lay c.toList o vs).toArray

theorem run_storeCells {P : Program} (vs : List Value) : ∀ (w : World) (b o i : Nat) (c : Array Value) (T : TypeId), w.heap[b]? = some (.cells c T (0, 0)) → o + i + vs.length ≤ c.size → (∀ v ∈ vs, v.oneCell' = true) →
    (storeCells ⟨b, o, none⟩ vs i).run P w = .ok () (World.putBlock w b (layA c (o + i) vs)) := by
  induction vs with
  | nil =>
    intro w b o i c T h hl _
    simp only [storeCells, Sem.run_pure, layA, lay]
    rw [putBlock_self w b _ T (0, 0)]
    simp [h]
  | cons v vs ih =>
    intro w b o i c T h hl hv
    simp only [List.length_cons] at hl
    have hb := (Array.getElem?_eq_some_iff.1 h).1
    have hc : w.cell? ⟨b, o + i, none⟩ = some (c[o + i]'(by omega)) := by
      rw [cell_of_row w b (o + i) c T (0, 0) h]; simp
    have hf : w.frozen? ⟨b, o + i, none⟩ = false := frozen_of_row w b (o + i) c T h
    simp only [storeCells, Sem.run_bind, add_addr]
    rw [run_store P w _ _ _ (hv v (by simp))]
    simp only [hc, hf, Bool.false_eq_true, if_false, Result.andThen_ok]
    rw [setCell_cells w b (o + i) c T (0, 0) v h]
    have h' := putBlock_same (c' := c.setIfInBounds (o + i) v) h
    rw [ih _ b o (i + 1) _ T h' (by simp; omega) (fun u hu => hv u (by simp [hu])), putBlock_putBlock]
    congr 2
    unfold layA lay
    apply Array.ext'
    simp only [List.length_cons]
    rw [Array.toList_setIfInBounds]
    have hlt : o + i < c.toList.length := by simp; omega
    have e1 : (c.toList.set (o + i) v).take (o + (i + 1)) = c.toList.take (o + i) ++ [v] := by
      rw [← Nat.add_assoc, List.take_succ_eq_append_getElem (by simpa using hlt)]
      simp [List.take_set_of_le]
    have e2 : (c.toList.set (o + i) v).drop (o + (i + 1) + vs.length) = c.toList.drop (o + i + (vs.length + 1)) := by
      rw [List.drop_set_of_lt (by omega)]
      congr 1
      omega
    rw [e1, e2]
    simp

theorem oneCell_flat {τ : Sh} {v : DV} : ∀ u ∈ flat τ v, u.oneCell' = true := by
  induction τ generalizing v with
  | int k => cases v <;> simp [flat, Value.oneCell']
  | bool => cases v <;> simp [flat, Value.oneCell']
  | str => cases v <;> simp [flat, Value.oneCell']
  | unit => cases v <;> simp [flat]
  | arr n e ih =>
    cases v <;> simp [flat]
    intro u i _ hu
    exact ih u hu
  | cons a b iha ihb =>
    cases v <;> simp [flat]
    rintro u (hu | hu)
    · exact iha u hu
    · exact ihb u hu

theorem Ext.put {ρ S w} {b : Nat} {c c' : Array Value} {T : TypeId} {fz : Nat × Nat} (h : w.heap[b]? = some (.cells c T fz)) (hs : c'.size = c.size) : Ext ρ S w ρ S (World.putBlock w b c') :=
  ⟨fun _ _ => rfl, List.prefix_refl _, fun k => by rw [bsz_putBlock h hs]; exact Nat.le_refl _⟩

/-- A live block that may be written gets another content of its shape. -/
theorem Rel.put {ρ : Nat → Nat} {H : Heap} {w : World} (r : Rel ρ H w) {i : Nat} {A B : Blk} {c c' : Array Value} {T : TypeId} {fz : Nat × Nat} (hi : H[i]? = some A)
    (hw : A.wr = true) (hs : B.sh = A.sh) (hbw : B.wr = true) (hc : w.heap[ρ i]? = some (.cells c T fz)) (hz : c'.size = c.size)
    (hB : RB ρ (shs H) (World.putBlock w (ρ i) c') B (some (.cells c' T fz))) :
    Rel ρ (H.set i B) (World.putBlock w (ρ i) c') := by
  have hlen := get_lt hi
  have get : ∀ j C, (H.set i B)[j]? = some C → (j ≠ i ∧ H[j]? = some C) ∨ (j = i ∧ C = B) := fun j C hj => by
    by_cases h : i = j
    · subst h; rw [List.getElem?_set_self hlen] at hj; exact .inr ⟨rfl, (Option.some.inj hj).symm⟩
    · rw [List.getElem?_set_ne h] at hj; exact .inl ⟨fun e => h e.symm, hj⟩
  constructor
  · intro j C hj
    rw [shs_set hi hs]
    rcases get j C hj with ⟨hne, hj'⟩ | ⟨rfl, rfl⟩
    · by_cases hlv : C.lv = true
      · rw [putBlock_other (fun e => r.sep i j A C hi hj' (fun e => hne e.symm) hw hlv e.symm)]
        exact (r.blk j C hj').mono (Ext.put hc hz)
      · cases C <;> first | trivial | (exact absurd rfl hlv)
    · rw [putBlock_same hc]; exact hB
  · intro j k C D hj hk hne hcw hdl
    rcases get j C hj with ⟨hne1, hj'⟩ | ⟨rfl, rfl⟩ <;> rcases get k D hk with ⟨hne2, hk'⟩ | ⟨rfl, rfl⟩
    · exact r.sep j k C D hj' hk' hne hcw hdl
    · exact r.sep j k C A hj' hi hne hcw (by cases A <;> first | rfl | cases hw)
    · exact r.sep j k A D hi hk' hne hw hdl
    · exact absurd rfl hne

/-- A block is given up. -/
theorem Rel.kill {ρ : Nat → Nat} {H : Heap} {w : World} (r : Rel ρ H w) {i : Nat} {A : Blk} (hi : H[i]? = some A) : Rel ρ (H.set i (.dead A.sh)) w := by
  have hlen := get_lt hi
  have get : ∀ j C, (H.set i (.dead A.sh))[j]? = some C → (j ≠ i ∧ H[j]? = some C) ∨ (j = i ∧ C = .dead A.sh) := fun j C hj => by
    by_cases h : i = j
    · subst h; rw [List.getElem?_set_self hlen] at hj; exact .inr ⟨rfl, (Option.some.inj hj).symm⟩
    · rw [List.getElem?_set_ne h] at hj; exact .inl ⟨fun e => h e.symm, hj⟩
  constructor
  · intro j C hj
    rw [shs_set (B := .dead A.sh) hi rfl]
    rcases get j C hj with ⟨_, hj'⟩ | ⟨rfl, rfl⟩
    · exact r.blk j C hj'
    · trivial
  · intro j k C D hj hk hne hcw hdl
    rcases get j C hj with ⟨_, hj'⟩ | ⟨rfl, rfl⟩ <;> rcases get k D hk with ⟨_, hk'⟩ | ⟨rfl, rfl⟩
    · exact r.sep j k C D hj' hk' hne hcw hdl
    · cases hdl
    · cases hcw
    · exact absurd rfl hne
end Ink
