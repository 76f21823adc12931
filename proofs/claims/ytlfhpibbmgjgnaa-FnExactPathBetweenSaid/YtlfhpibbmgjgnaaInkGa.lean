/- Contracts of functions of the program, by the texts that it imports. No conditions. -/
import Derived.Calls
import Derived.Laws.Rows
import Derived.Laws.Tables
import Derived.Laws.World
import Derived.Laws.AppendOwn
import Derived.Laws.StructEq
set_option linter.unusedVariables false
set_option linter.unusedSimpArgs false
/- The data side of an abstract evaluator over the model: shapes of pointer-free data, data trees, their cells, reading and writing at a path. No conditions. -/
namespace Ink
open Go

inductive Sh where
  | int (k : IntKind)
  | bool
  | str
  | arr (n : Nat) (e : Sh)
  | unit
  | cons (a b : Sh)

def Sh.size : Sh → Nat
  | .int _ => 1
  | .bool => 1
  | .str => 1
  | .arr n e => n * e.size
  | .unit => 0
  | .cons a b => a.size + b.size

def Sh.agg : Sh → Bool
  | .int _ => false
  | .bool => false
  | .str => false
  | _ => true

inductive DV where
  | int (k : IntKind) (n : Int)
  | bool (b : Bool)
  | str (s : ByteArray)
  | arr (f : Nat → DV)
  | unit
  | cons (a b : DV)

def Has : Sh → DV → Prop
  | .int k, .int j _ => j = k
  | .bool, .bool _ => True
  | .str, .str _ => True
  | .arr n e, .arr f => ∀ i, i < n → Has e (f i)
  | .unit, .unit => True
  | .cons a b, .cons x y => Has a x ∧ Has b y
  | _, _ => False

def flat : Sh → DV → List Value
  | .int _, .int k n => [.int k n]
  | .bool, .bool b => [.bool b]
  | .str, .str s => [.string s]
  | .arr n e, .arr f => (List.range n).flatMap fun i => flat e (f i)
  | .cons a b, .cons x y => flat a x ++ flat b y
  | _, _ => []

theorem flatMap_range_length {α : Type} (n m : Nat) (g : Nat → List α) (h : ∀ i, i < n → (g i).length = m) :
    ((List.range n).flatMap g).length = n * m := by
  induction n with
  | zero => simp
  | succ n ih =>
    rw [List.range_succ, List.flatMap_append, List.length_append, ih (fun i hi => h i (by omega))]
    simp [h n (by omega), Nat.succ_mul]

theorem flat_length {τ : Sh} : ∀ {v : DV}, Has τ v → (flat τ v).length = τ.size := by
  induction τ with
  | int k => intro v h; cases v <;> simp [Has, flat, Sh.size] at *
  | bool => intro v h; cases v <;> simp [Has, flat, Sh.size] at *
  | str => intro v h; cases v <;> simp [Has, flat, Sh.size] at *
  | unit => intro v h; cases v <;> simp [Has, flat, Sh.size] at *
  | arr n e ih =>
    intro v h
    cases v <;> simp only [Has] at h
    simp only [flat, Sh.size]
    exact flatMap_range_length _ _ _ fun i hi => ih (h i hi)
  | cons a b iha ihb =>
    intro v h
    cases v <;> simp only [Has] at h
    simp only [flat, Sh.size, List.length_append, iha h.1, ihb h.2]

/-- Where the part at a path begins, and its shape. -/
def Sh.at? : Sh → List Nat → Option (Nat × Sh)
  | τ, [] => some (0, τ)
  | .arr n e, i :: p => if i < n then (e.at? p).map fun x => (i * e.size + x.1, x.2) else none
  | .cons a _, 0 :: p => a.at? p
  | .cons a b, (k + 1) :: p => (b.at? (k :: p)).map fun x => (a.size + x.1, x.2)
  | _, _ => none

def DV.get : DV → List Nat → DV
  | v, [] => v
  | .arr f, i :: p => (f i).get p
  | .cons a _, 0 :: p => a.get p
  | .cons _ b, (k + 1) :: p => b.get (k :: p)
  | _, _ => .unit

def DV.set : DV → List Nat → DV → DV
  | _, [], x => x
  | .arr f, i :: p, x => .arr fun j => if j = i then (f i).set p x else f j
  | .cons a b, 0 :: p, x => .cons (a.set p x) b
  | .cons a b, (k + 1) :: p, x => .cons a (b.set (k :: p) x)
  | v, _, _ => v

theorem flatMap_range_split {α : Type} (n i m : Nat) (g : Nat → List α) (h : ∀ i, i < n → (g i).length = m) (hi : i < n) :
    (List.range n).flatMap g = (List.range i).flatMap g ++ (g i ++ (List.range (n - (i + 1))).flatMap fun j => g (i + 1 + j)) := by
  have : n = i + (1 + (n - (i + 1))) := by omega
  conv => lhs; rw [this, List.range_add, List.flatMap_append]
  congr 1
  rw [List.range_add]
  simp [List.flatMap_map, List.map_append, List.flatMap_append, Nat.add_assoc, Nat.add_comm, Nat.add_left_comm]

/-- 'xs' lies in 'l' from 'o' on. -/
def LiesAt {α : Type} (l : List α) (o : Nat) (xs : List α) : Prop := ∃ a b, l = a ++ xs ++ b ∧ a.length = o

theorem LiesAt.pre {α : Type} {l a xs : List α} {o : Nat} (h : LiesAt l o xs) : LiesAt (a ++ l) (a.length + o) xs := by
  obtain ⟨c, d, rfl, rfl⟩ := h
  exact ⟨a ++ c, d, by simp, by simp⟩
theorem LiesAt.post {α : Type} {l b xs : List α} {o : Nat} (h : LiesAt l o xs) : LiesAt (l ++ b) o xs := by
  obtain ⟨c, d, rfl, rfl⟩ := h
  exact ⟨c, d ++ b, by simp, rfl⟩
theorem LiesAt.self {α : Type} (l : List α) : LiesAt l 0 l := ⟨[], [], by simp, rfl⟩

theorem get_flat : ∀ {σ : Sh} {p : List Nat} {v : DV} {o : Nat} {τ : Sh}, Has σ v → σ.at? p = some (o, τ) →
    Has τ (v.get p) ∧ LiesAt (flat σ v) o (flat τ (v.get p)) ∧ o + τ.size ≤ σ.size := by
  intro σ
  induction σ with
  | int k => intro p v o τ h ha; cases p <;> simp [Sh.at?] at ha; obtain ⟨rfl, rfl⟩ := ha; cases v <;> exact ⟨h, LiesAt.self _, by simp⟩
  | bool => intro p v o τ h ha; cases p <;> simp [Sh.at?] at ha; obtain ⟨rfl, rfl⟩ := ha; cases v <;> exact ⟨h, LiesAt.self _, by simp⟩
  | str => intro p v o τ h ha; cases p <;> simp [Sh.at?] at ha; obtain ⟨rfl, rfl⟩ := ha; cases v <;> exact ⟨h, LiesAt.self _, by simp⟩
  | unit => intro p v o τ h ha; cases p <;> simp [Sh.at?] at ha; obtain ⟨rfl, rfl⟩ := ha; cases v <;> exact ⟨h, LiesAt.self _, by simp⟩
  | arr n e ih =>
    intro p v o τ h ha
    cases p with
    | nil => simp [Sh.at?] at ha; obtain ⟨rfl, rfl⟩ := ha; cases v <;> exact ⟨h, LiesAt.self _, by simp⟩
    | cons i p =>
      cases v <;> simp only [Has] at h
      rename_i f
      simp only [Sh.at?] at ha
      split at ha
      · rename_i hi
        simp only [Option.map_eq_some_iff] at ha
        obtain ⟨⟨o', τ'⟩, hat, heq⟩ := ha
        cases heq
        obtain ⟨h1, h2, h3⟩ := ih (h i hi) hat
        have hlen : ∀ j, j < n → (flat e (f j)).length = e.size := fun j hj => flat_length (h j hj)
        refine ⟨h1, ?_, ?_⟩
        · simp only [flat, DV.get]
          rw [flatMap_range_split n i e.size _ hlen hi]
          have hl := flatMap_range_length i e.size (fun j => flat e (f j)) fun j hj => hlen j (by omega)
          have := (h2.post (b := (List.range (n - (i + 1))).flatMap fun j => flat e (f (i + 1 + j)))).pre (a := (List.range i).flatMap fun j => flat e (f j))
          rw [hl] at this
          exact this
        · simp only [Sh.size]
          have : (i + 1) * e.size ≤ n * e.size := Nat.mul_le_mul_right _ (by omega)
          rw [Nat.succ_mul] at this
          omega
      · cases ha
  | cons a b iha ihb =>
    intro p v o τ h ha
    cases p with
    | nil => simp [Sh.at?] at ha; obtain ⟨rfl, rfl⟩ := ha; cases v <;> exact ⟨h, LiesAt.self _, by simp⟩
    | cons i p =>
      cases v <;> simp only [Has] at h
      rename_i x y
      cases i with
      | zero =>
        simp only [Sh.at?] at ha
        obtain ⟨h1, h2, h3⟩ := iha h.1 ha
        exact ⟨h1, by simpa only [flat, DV.get] using h2.post, by simp only [Sh.size]; omega⟩
      | succ k =>
        simp only [Sh.at?, Option.map_eq_some_iff] at ha
        obtain ⟨⟨o', τ'⟩, hat, heq⟩ := ha
        cases heq
        obtain ⟨h1, h2, h3⟩ := ihb h.2 hat
        refine ⟨h1, ?_, by simp only [Sh.size] at *; omega⟩
        have := h2.pre (a := flat a x)
        rw [flat_length h.1] at this
        simpa only [flat, DV.get] using this

/-- What comes of 'l' if 'xs' is laid into it from 'o' on. -/
def lay {α : Type} (l : List α) (o : Nat) (xs : List α) : List α := l.take o ++ xs ++ l.drop (o + xs.length)

theorem lay_pre {α : Type} {l a xs : List α} {o : Nat} : lay (a ++ l) (a.length + o) xs = a ++ lay l o xs := by
  unfold lay
  rw [List.take_append, List.drop_append]
  have h1 : List.take (a.length + o) a = a := List.take_of_length_le (by omega)
  have h2 : List.drop (a.length + o + xs.length) a = [] := List.drop_of_length_le (by omega)
  rw [h1, h2]
  have h3 : a.length + o - a.length = o := by omega
  have h4 : a.length + o + xs.length - a.length = o + xs.length := by omega
  rw [h3, h4]
  simp
theorem lay_post {α : Type} {l b xs : List α} {o : Nat} (h : o + xs.length ≤ l.length) : lay (l ++ b) o xs = lay l o xs ++ b := by
  unfold lay
  rw [List.take_append_of_le_length (by omega), List.drop_append_of_le_length h]
  simp
theorem lay_self {α : Type} {l xs : List α} (h : xs.length = l.length) : lay l 0 xs = xs := by
  unfold lay; simp [h]

theorem set_flat : ∀ {σ : Sh} {p : List Nat} {v x : DV} {o : Nat} {τ : Sh}, Has σ v → σ.at? p = some (o, τ) → Has τ x →
    Has σ (v.set p x) ∧ flat σ (v.set p x) = lay (flat σ v) o (flat τ x) := by
  intro σ
  induction σ with
  | int k => intro p v x o τ h ha hx; cases p <;> simp [Sh.at?] at ha; obtain ⟨rfl, rfl⟩ := ha; exact ⟨by simpa [DV.set] using hx, by rw [lay_self (by rw [flat_length h, flat_length hx])]; simp [DV.set]⟩
  | bool => intro p v x o τ h ha hx; cases p <;> simp [Sh.at?] at ha; obtain ⟨rfl, rfl⟩ := ha; exact ⟨by simpa [DV.set] using hx, by rw [lay_self (by rw [flat_length h, flat_length hx])]; simp [DV.set]⟩
  | str => intro p v x o τ h ha hx; cases p <;> simp [Sh.at?] at ha; obtain ⟨rfl, rfl⟩ := ha; exact ⟨by simpa [DV.set] using hx, by rw [lay_self (by rw [flat_length h, flat_length hx])]; simp [DV.set]⟩
  | unit => intro p v x o τ h ha hx; cases p <;> simp [Sh.at?] at ha; obtain ⟨rfl, rfl⟩ := ha; exact ⟨by simpa [DV.set] using hx, by rw [lay_self (by rw [flat_length h, flat_length hx])]; simp [DV.set]⟩
  | arr n e ih =>
    intro p v x o τ h ha hx
    cases p with
    | nil => simp [Sh.at?] at ha; obtain ⟨rfl, rfl⟩ := ha; exact ⟨by simpa [DV.set] using hx, by rw [lay_self (by rw [flat_length h, flat_length hx])]; simp [DV.set]⟩
    | cons i p =>
      have hv := h
      cases v <;> simp only [Has] at h
      rename_i f
      simp only [Sh.at?] at ha
      split at ha
      · rename_i hi
        simp only [Option.map_eq_some_iff] at ha
        obtain ⟨⟨o', τ'⟩, hat, heq⟩ := ha
        cases heq
        obtain ⟨h1, h2⟩ := ih (h i hi) hat hx
        have hg := (get_flat (h i hi) hat).2.2
        have hlen : ∀ j, j < n → (flat e (f j)).length = e.size := fun j hj => flat_length (h j hj)
        have hset : Has (.arr n e) ((DV.arr f).set (i :: p) x) := by
          simp only [DV.set, Has]
          intro j hj
          split
          · exact h1
          · exact h j hj
        refine ⟨hset, ?_⟩
        simp only [DV.set, Has] at hset
        have hlen' : ∀ j, j < n → (flat e (if j = i then (f i).set p x else f j)).length = e.size := fun j hj => flat_length (hset j hj)
        simp only [flat, DV.set]
        rw [flatMap_range_split n i e.size _ hlen' hi, flatMap_range_split n i e.size _ hlen hi]
        have e1 : ((List.range i).flatMap fun j => flat e (if j = i then (f i).set p x else f j)) = (List.range i).flatMap fun j => flat e (f j) := by
          simp only [List.flatMap_def]
          congr 1
          apply List.map_congr_left
          intro j hj
          have := List.mem_range.1 hj
          rw [if_neg (by omega)]
        have e2 : ((List.range (n - (i + 1))).flatMap fun j => flat e (if i + 1 + j = i then (f i).set p x else f (i + 1 + j))) = (List.range (n - (i + 1))).flatMap fun j => flat e (f (i + 1 + j)) := by
          simp only [List.flatMap_def]
          congr 1
          apply List.map_congr_left
          intro j hj
          rw [if_neg (by omega)]
        have hl := flatMap_range_length i e.size (fun j => flat e (f j)) fun j hj => hlen j (by omega)
        rw [e1, e2, if_pos rfl, h2]
        have := lay_pre (a := (List.range i).flatMap fun j => flat e (f j)) (l := flat e (f i) ++ (List.range (n - (i + 1))).flatMap fun j => flat e (f (i + 1 + j))) (o := o') (xs := flat τ' x)
        rw [hl] at this
        rw [this, lay_post]
        rw [flat_length hx, flat_length (h i hi)]
        exact hg
      · cases ha
  | cons a b iha ihb =>
    intro p v x o τ h ha hx
    cases p with
    | nil => simp [Sh.at?] at ha; obtain ⟨rfl, rfl⟩ := ha; exact ⟨by simpa [DV.set] using hx, by rw [lay_self (by rw [flat_length h, flat_length hx])]; simp [DV.set]⟩
    | cons i p =>
      cases v <;> simp only [Has] at h
      rename_i y z
      cases i with
      | zero =>
        simp only [Sh.at?] at ha
        obtain ⟨h1, h2⟩ := iha h.1 ha hx
        have hg := (get_flat h.1 ha).2.2
        refine ⟨⟨h1, h.2⟩, ?_⟩
        simp only [flat, DV.set, h2]
        rw [lay_post]
        rw [flat_length hx, flat_length h.1]; exact hg
      | succ k =>
        simp only [Sh.at?, Option.map_eq_some_iff] at ha
        obtain ⟨⟨o', τ'⟩, hat, heq⟩ := ha
        cases heq
        obtain ⟨h1, h2⟩ := ihb h.2 hat hx
        refine ⟨⟨h.1, h1⟩, ?_⟩
        simp only [flat, DV.set, h2]
        have := lay_pre (a := flat a y) (l := flat b z) (o := o') (xs := flat τ' x)
        rw [flat_length h.1] at this
        exact this.symm

theorem at_snoc : ∀ {σ : Sh} {p q : List Nat} {o o' : Nat} {τ τ' : Sh}, σ.at? p = some (o, τ) → τ.at? q = some (o', τ') → σ.at? (p ++ q) = some (o + o', τ') := by
  intro σ
  induction σ with
  | int k => intro p q o o' τ τ' h h'; cases p <;> simp [Sh.at?] at h; obtain ⟨rfl, rfl⟩ := h; simpa using h'
  | bool => intro p q o o' τ τ' h h'; cases p <;> simp [Sh.at?] at h; obtain ⟨rfl, rfl⟩ := h; simpa using h'
  | str => intro p q o o' τ τ' h h'; cases p <;> simp [Sh.at?] at h; obtain ⟨rfl, rfl⟩ := h; simpa using h'
  | unit => intro p q o o' τ τ' h h'; cases p <;> simp [Sh.at?] at h; obtain ⟨rfl, rfl⟩ := h; simpa using h'
  | arr n e ih =>
    intro p q o o' τ τ' h h'
    cases p with
    | nil => simp [Sh.at?] at h; obtain ⟨rfl, rfl⟩ := h; simpa using h'
    | cons i p =>
      simp only [Sh.at?] at h
      split at h
      · rename_i hi
        simp only [Option.map_eq_some_iff] at h
        obtain ⟨⟨a, b⟩, hat, heq⟩ := h
        cases heq
        have := ih hat h'
        simp [Sh.at?, hi, this, Nat.add_assoc]
      · cases h
  | cons a b iha ihb =>
    intro p q o o' τ τ' h h'
    cases p with
    | nil => simp [Sh.at?] at h; obtain ⟨rfl, rfl⟩ := h; simpa using h'
    | cons i p =>
      cases i with
      | zero => simp only [Sh.at?] at h; have := iha h h'; simpa [Sh.at?] using this
      | succ k =>
        simp only [Sh.at?, Option.map_eq_some_iff] at h
        obtain ⟨⟨c, d⟩, hat, heq⟩ := h
        cases heq
        have := ihb hat h'
        simp only [List.cons_append] at this ⊢
        simp [Sh.at?, this, Nat.add_assoc]
end Ink
/- Abstract values and blocks, how they stand to the model's values and memory, and what the model's memory operations do to that. No conditions. -/
namespace Ink
open Go

inductive AV where
  | int (k : IntKind) (n : Int)
  | bool (b : Bool)
  | str (s : ByteArray)
  | agg (τ : Sh) (v : DV)
  | ptr (b : Nat) (p : List Nat) (τ : Sh)
  | rptr (b : Nat)
  | nilp
  | nils
  | slc (b lo len : Nat)
  | wsl (b len : Nat)
  | wz
  | slk (b lo len cap : Nat)
  | fn (f : FuncId) (first captured : List AV)
  | tup (l : List AV)
  | junk
  | raw (x : Value)
  | mp (b : Nat)

inductive BSh where
  | data (σ : Sh)
  | seq (e : Sh)
  | win (o : Nat) (e : Sh)
  | ref
  | obj

def BSh.at? : BSh → List Nat → Option (Nat × Sh)
  | .data σ, p => σ.at? p
  | .seq e, i :: p => (e.at? p).map fun x => (i * e.size + x.1, x.2)
  | .win o e, i :: p => (e.at? p).map fun x => (o + (i * e.size + x.1), x.2)
  | _, _ => none

/-- A map from two small numbers to a number, as the model lays it. -/
def spV (k : Int × Int) : Value := .agg #[.int .i8 k.1, .int .i8 k.2]
def mapE (p : ((Int × Int) × Int) × Nat) : MapEntry := { key := spV p.1.1, val := .int .i64 p.1.2, born := p.2 }
def mapO (l : List ((Int × Int) × Int)) : Obj := .map ((l.zipIdx.map mapE).toArray) l.length

inductive Blk where
  | data (σ : Sh) (v : DV)
  | seq (wr : Bool) (e : Sh) (l : List DV)
  | win (o : Nat) (e : Sh) (l : List DV)
  | ref (x : AV)
  | mpb (l : List ((Int × Int) × Int))
  | dead (s : BSh)

def Blk.sh : Blk → BSh
  | .data σ _ => .data σ
  | .seq _ e _ => .seq e
  | .win o e _ => .win o e
  | .ref _ => .ref
  | .mpb _ => .obj
  | .dead s => s
def Blk.wr : Blk → Bool
  | .data _ _ => true
  | .seq w _ _ => w
  | .win _ _ _ => false
  | .ref _ => true
  | .mpb _ => true
  | .dead _ => false
def Blk.lv : Blk → Bool
  | .dead _ => false
  | _ => true

abbrev Heap := List Blk
def shs (H : Heap) : List BSh := H.map Blk.sh

/-- How many cells a block has. -/
def bsz (w : World) (b : Nat) : Nat := match w.heap[b]? with
  | some (.cells c _ _) => c.size
  | _ => 0

mutual
def Rv (ρ : Nat → Nat) (S : List BSh) (w : World) : AV → Value → Prop
  | .int k n, x => x = .int k n
  | .bool b, x => x = .bool b
  | .str s, x => x = .string s
  | .agg τ v, x => τ.agg = true ∧ Has τ v ∧ x = .agg (flat τ v).toArray
  | .ptr b p τ, x => ∃ s o, S[b]? = some s ∧ s.at? p = some (o, τ) ∧ x = .pointer (some ⟨ρ b, o, none⟩)
  | .rptr b, x => S[b]? = some .ref ∧ x = .pointer (some ⟨ρ b, 0, none⟩)
  | .nilp, x => x = .pointer none
  | .nils, x => x = .slice none 0 0
  | .slc b lo len, x => ∃ e, S[b]? = some (.seq e) ∧
      ((∃ cap, x = .slice (some ⟨ρ b, lo * e.size, none⟩) len cap ∧ len ≤ cap ∧ (lo + cap) * e.size ≤ bsz w (ρ b)) ∨ (len = 0 ∧ ∃ a, x = .slice (some a) 0 0))
  | .wsl b len, x => ∃ o e, S[b]? = some (.win o e) ∧ ((∃ cap, x = .slice (some ⟨ρ b, o, none⟩) len cap) ∨ (len = 0 ∧ ∃ a cap, x = .slice a 0 cap))
  | .wz, x => ∃ a cap, x = .slice a 0 cap
  | .slk b lo len cap, x => ∃ e, S[b]? = some (.seq e) ∧
      ((∃ c, x = .slice (some ⟨ρ b, lo * e.size, none⟩) len c ∧ (len ≤ cap ∧ cap ≤ c) ∧ (lo + c) * e.size ≤ bsz w (ρ b)) ∨ ((len = 0 ∧ cap = 0) ∧ ∃ a, x = .slice (some a) 0 0))
  | .fn f first capt, x => ∃ vs ws, x = .func (.func f) vs.toArray ws.toArray ∧ Rvs ρ S w first vs ∧ Rvs ρ S w capt ws
  | .tup l, x => ∃ vs, x = .tuple vs.toArray ∧ Rvs ρ S w l vs
  | .junk, _ => True
  | .raw y, x => x = y
  | .mp b, x => S[b]? = some .obj ∧ x = .map (some (ρ b))
def Rvs (ρ : Nat → Nat) (S : List BSh) (w : World) : List AV → List Value → Prop
  | [], [] => True
  | a :: l, v :: vs => Rv ρ S w a v ∧ Rvs ρ S w l vs
  | _, _ => False
end

/-- One block. -/
def RB (ρ : Nat → Nat) (S : List BSh) (w : World) : Blk → Option Obj → Prop
  | .data σ v, o => Has σ v ∧ ∃ T, o = some (.cells (flat σ v).toArray T (0, 0))
  | .seq wr e l, o => (∀ x ∈ l, Has e x) ∧ ∃ c T fz, o = some (.cells c T fz) ∧ (l.flatMap (flat e)) <+: c.toList ∧ (wr = true → fz = (0, 0))
  | .win f e l, o => (∀ x ∈ l, Has e x) ∧ ∃ c T fz, o = some (.cells c T fz) ∧ LiesAt c.toList f (l.flatMap (flat e))
  | .ref x, o => ∃ v T, o = some (.cells #[v] T (0, 0)) ∧ Rv ρ S w x v
  | .mpb l, o => o = some (mapO l)
  | .dead _, _ => True

structure Rel (ρ : Nat → Nat) (H : Heap) (w : World) : Prop where
  blk : ∀ i B, H[i]? = some B → RB ρ (shs H) w B w.heap[ρ i]?
  sep : ∀ i j A B, H[i]? = some A → H[j]? = some B → i ≠ j → A.wr = true → B.lv = true → ρ i ≠ ρ j

structure Ext (ρ : Nat → Nat) (S : List BSh) (w : World) (ρ' : Nat → Nat) (S' : List BSh) (w' : World) : Prop where
  ren : ∀ i, i < S.length → ρ' i = ρ i
  sh : S <+: S'
  sz : ∀ b, bsz w b ≤ bsz w' b

theorem Ext.refl (ρ S w) : Ext ρ S w ρ S w := ⟨fun _ _ => rfl, List.prefix_refl _, fun _ => Nat.le_refl _⟩
theorem Ext.trans {ρ S w ρ' S' w' ρ'' S'' w''} (h : Ext ρ S w ρ' S' w') (k : Ext ρ' S' w' ρ'' S'' w'') : Ext ρ S w ρ'' S'' w'' :=
  ⟨fun i hi => (k.ren i (Nat.lt_of_lt_of_le hi h.sh.length_le)).trans (h.ren i hi), h.sh.trans k.sh, fun b => Nat.le_trans (h.sz b) (k.sz b)⟩

theorem prefix_get {α : Type} {l l' : List α} {i : Nat} {x : α} (h : l <+: l') (hi : l[i]? = some x) : l'[i]? = some x := by
  obtain ⟨t, rfl⟩ := h
  rw [List.getElem?_append_left]
  · exact hi
  · exact (List.getElem?_eq_some_iff.1 hi).1
theorem get_lt {α : Type} {l : List α} {i : Nat} {x : α} (hi : l[i]? = some x) : i < l.length := (List.getElem?_eq_some_iff.1 hi).1

mutual
theorem Rv.mono {ρ S w ρ' S' w'} (h : Ext ρ S w ρ' S' w') : ∀ {a : AV} {v : Value}, Rv ρ S w a v → Rv ρ' S' w' a v
  | .int _ _, _, r => r
  | .bool _, _, r => r
  | .str _, _, r => r
  | .agg _ _, _, r => r
  | .ptr b p τ, _, r => by
    obtain ⟨s, o, h1, h2, h3⟩ := r
    exact ⟨s, o, prefix_get h.sh h1, h2, by rw [h.ren b (get_lt h1)]; exact h3⟩
  | .rptr b, _, r => by
    obtain ⟨h1, h3⟩ := r
    exact ⟨prefix_get h.sh h1, by rw [h.ren b (get_lt h1)]; exact h3⟩
  | .nilp, _, r => r
  | .nils, _, r => r
  | .wz, _, r => r
  | .wsl b len, _, r => by
    obtain ⟨o, e, h1, h2⟩ := r
    exact ⟨o, e, prefix_get h.sh h1, by rw [h.ren b (get_lt h1)]; exact h2⟩
  | .slc b lo len, _, r => by
    obtain ⟨e, h1, h2⟩ := r
    refine ⟨e, prefix_get h.sh h1, ?_⟩
    rcases h2 with ⟨cap, h3, h4, h5⟩ | h2
    · exact .inl ⟨cap, by rw [h.ren b (get_lt h1)]; exact h3, h4, by rw [h.ren b (get_lt h1)]; exact Nat.le_trans h5 (h.sz _)⟩
    · exact .inr h2
  | .slk b lo len cp, _, r => by
    obtain ⟨e, h1, h2⟩ := r
    refine ⟨e, prefix_get h.sh h1, ?_⟩
    rcases h2 with ⟨cap, h3, h4, h5⟩ | h2
    · exact .inl ⟨cap, by rw [h.ren b (get_lt h1)]; exact h3, h4, by rw [h.ren b (get_lt h1)]; exact Nat.le_trans h5 (h.sz _)⟩
    · exact .inr h2
  | .fn _ _ _, _, r => by
    obtain ⟨vs, ws, h1, h2, h3⟩ := r
    exact ⟨vs, ws, h1, Rvs.mono h h2, Rvs.mono h h3⟩
  | .tup _, _, r => by
    obtain ⟨vs, h1, h2⟩ := r
    exact ⟨vs, h1, Rvs.mono h h2⟩
  | .junk, _, _ => trivial
  | .raw _, _, r => r
  | .mp b, _, r => by
    obtain ⟨h1, h3⟩ := r
    exact ⟨prefix_get h.sh h1, by rw [h.ren b (get_lt h1)]; exact h3⟩
theorem Rvs.mono {ρ S w ρ' S' w'} (h : Ext ρ S w ρ' S' w') : ∀ {a : List AV} {v : List Value}, Rvs ρ S w a v → Rvs ρ' S' w' a v
  | [], [], r => r
  | _ :: _, _ :: _, r => ⟨Rv.mono h r.1, Rvs.mono h r.2⟩
  | [], _ :: _, r => r.elim
  | _ :: _, [], r => r.elim
end

theorem RB.mono {ρ S w ρ' S' w'} (h : Ext ρ S w ρ' S' w') {B : Blk} {o : Option Obj} (r : RB ρ S w B o) : RB ρ' S' w' B o := by
  cases B with
  | ref x => obtain ⟨v, T, h1, h2⟩ := r; exact ⟨v, T, h1, h2.mono h⟩
  | _ => exact r

theorem shs_get {H : Heap} {i : Nat} {B : Blk} (h : H[i]? = some B) : (shs H)[i]? = some B.sh := by simp [shs, h]
theorem shs_append {H K : Heap} : shs (H ++ K) = shs H ++ shs K := by simp [shs]
theorem shs_length {H : Heap} : (shs H).length = H.length := by simp [shs]
theorem shs_set {H : Heap} {i : Nat} {A B : Blk} (h : H[i]? = some A) (hs : B.sh = A.sh) : shs (H.set i B) = shs H := by
  simp only [shs, List.map_set]
  apply List.ext_getElem?
  intro j
  by_cases hj : i = j
  · subst hj
    rw [List.getElem?_set_self (by simpa using get_lt h)]
    simp [h, hs]
  · rw [List.getElem?_set_ne hj]

/-! ### New blocks -/
def World.push (w : World) (o : Obj) : World := { w with heap := w.heap.push o }
theorem push_heap (w : World) (o : Obj) : (World.push w o).heap = w.heap.push o := rfl
theorem bsz_push (w : World) (o : Obj) (b : Nat) : bsz w b ≤ bsz (World.push w o) b := by
  by_cases hb : b = w.heap.size
  · have : bsz w b = 0 := by unfold bsz; rw [Array.getElem?_eq_none (by omega)]
    omega
  · have : (World.push w o).heap[b]? = w.heap[b]? := by rw [push_heap, Array.getElem?_push, if_neg hb]
    unfold bsz
    rw [this]
    exact Nat.le_refl _

def upd (ρ : Nat → Nat) (i x : Nat) : Nat → Nat := fun j => if j = i then x else ρ j
theorem upd_same (ρ : Nat → Nat) (i x : Nat) : upd ρ i x i = x := by simp [upd]
theorem upd_ne {ρ : Nat → Nat} {i x j : Nat} (h : j ≠ i) : upd ρ i x j = ρ j := by simp [upd, h]

theorem Ext.push {ρ : Nat → Nat} {H : Heap} {w : World} (B : Blk) (o : Obj) : Ext ρ (shs H) w (upd ρ H.length w.heap.size) (shs (H ++ [B])) (World.push w o) :=
  ⟨fun i hi => upd_ne (by rw [shs_length] at hi; omega), by rw [shs_append]; exact List.prefix_append _ _, bsz_push w o⟩

theorem RB.lt {ρ S w} {B : Blk} {i : Nat} (h : RB ρ S w B w.heap[i]?) (hl : B.lv = true) : i < w.heap.size := by
  have : ∃ x, w.heap[i]? = some x := by
    cases B with
    | data σ v => obtain ⟨_, T, h⟩ := h; exact ⟨_, h⟩
    | seq wr e l => obtain ⟨_, c, T, fz, h, _⟩ := h; exact ⟨_, h⟩
    | win o e l => obtain ⟨_, c, T, fz, h, _⟩ := h; exact ⟨_, h⟩
    | ref x => obtain ⟨v, T, h, _⟩ := h; exact ⟨_, h⟩
    | mpb y => exact ⟨_, h⟩
    | dead s => cases hl
  obtain ⟨x, hx⟩ := this
  exact (Array.getElem?_eq_some_iff.1 hx).1

theorem Rel.push {ρ : Nat → Nat} {H : Heap} {w : World} (r : Rel ρ H w) {B : Blk} {o : Obj}
    (hB : RB (upd ρ H.length w.heap.size) (shs (H ++ [B])) (World.push w o) B (some o)) : Rel (upd ρ H.length w.heap.size) (H ++ [B]) (World.push w o) := by
  have keep : ∀ i A, H[i]? = some A → A.lv = true → (World.push w o).heap[ρ i]? = w.heap[ρ i]? := fun i A hi hl => by
    have := (r.blk i A hi).lt hl
    rw [push_heap, Array.getElem?_push, if_neg (by omega)]
  have get : ∀ i A, (H ++ [B])[i]? = some A → (H[i]? = some A ∧ i < H.length) ∨ (i = H.length ∧ A = B) := fun i A hi => by
    rcases Nat.lt_trichotomy i H.length with h | h | h
    · rw [List.getElem?_append_left h] at hi; exact .inl ⟨hi, h⟩
    · subst h; simp at hi; exact .inr ⟨rfl, hi.symm⟩
    · rw [List.getElem?_eq_none (by simp; omega)] at hi; cases hi
  constructor
  · intro i A hi
    rcases get i A hi with ⟨h, hl⟩ | ⟨rfl, rfl⟩
    · rw [upd_ne (by omega)]
      by_cases hlv : A.lv = true
      · rw [keep i A h hlv]
        exact (r.blk i A h).mono (Ext.push B o)
      · cases A <;> first | trivial | (exact absurd rfl hlv)
    · rw [upd_same, push_heap, Array.getElem?_push, if_pos rfl]
      exact hB
  · intro i j A C hi hj hne hw hl
    rcases get i A hi with ⟨hi', hil⟩ | ⟨rfl, rfl⟩ <;> rcases get j C hj with ⟨hj', hjl⟩ | ⟨rfl, rfl⟩
    · rw [upd_ne (by omega), upd_ne (by omega)]
      exact r.sep i j A C hi' hj' hne hw hl
    · rw [upd_ne (by omega), upd_same]
      have := (r.blk i A hi').lt (by cases A <;> first | rfl | cases hw)
      omega
    · rw [upd_same, upd_ne (by omega)]
      have := (r.blk j C hj').lt hl
      omega
    · exact absurd rfl hne

/-! ### Writing into a block -/
def World.putBlock (w : World) (b : Nat) (c : Array Value) : World :=
  { w with heap := w.heap.modify b fun
      | .cells _ T fz => .cells c T fz
      | o => o }
theorem putBlock_same {w : World} {b : Nat} {c c' : Array Value} {T : TypeId} {fz : Nat × Nat} (h : w.heap[b]? = some (.cells c T fz)) :
    (World.putBlock w b c').heap[b]? = some (.cells c' T fz) := by
  simp [World.putBlock, Array.getElem?_modify, h]
theorem putBlock_other {w : World} {b k : Nat} {c' : Array Value} (h : k ≠ b) : (World.putBlock w b c').heap[k]? = w.heap[k]? := by
  simp only [World.putBlock, Array.getElem?_modify]
  rw [if_neg (by omega)]
theorem putBlock_size {w : World} {b : Nat} {c' : Array Value} : (World.putBlock w b c').heap.size = w.heap.size := by simp [World.putBlock]

theorem bsz_putBlock {w : World} {b : Nat} {c c' : Array Value} {T : TypeId} {fz : Nat × Nat} (h : w.heap[b]? = some (.cells c T fz)) (hs : c'.size = c.size) (k : Nat) :
    bsz (World.putBlock w b c') k = bsz w k := by
  unfold bsz
  by_cases hk : k = b
  · subst hk
    rw [putBlock_same h, h]
    exact hs
  · rw [putBlock_other hk]

theorem setCell_cells (w : World) (b i : Nat) (c : Array Value) (T : TypeId) (fz : Nat × Nat) (v : Value) (h : w.heap[b]? = some (.cells c T fz)) :
    w.setCell ⟨b, i, none⟩ v = World.putBlock w b (c.setIfInBounds i v) := by
  unfold World.setCell World.putBlock
  congr 1
  have hb := (Array.getElem?_eq_some_iff.1 h).1
  apply Array.ext
  · simp
  · intro k h1 h2
    simp only [Array.getElem_modify]
    split
    · rename_i hk
      subst hk
      have : w.heap[b] = .cells c T fz := by simpa [hb] using h
      rw [this]
      simp
    · rfl

theorem putBlock_putBlock (w : World) (b : Nat) (c c' : Array Value) : World.putBlock (World.putBlock w b c) b c' = World.putBlock w b c' := by
  unfold World.putBlock
  congr 1
  apply Array.ext
  · simp
  · intro k h1 h2
    simp only [Array.getElem_modify]
    split
    · cases hw : w.heap[k]'(by simpa using h1) <;> rfl
    · rfl
theorem putBlock_self (w : World) (b : Nat) (c : Array Value) (T : TypeId) (fz : Nat × Nat) (h : w.heap[b]? = some (.cells c T fz)) : World.putBlock w b c = w := by
  unfold World.putBlock
  have : (w.heap.modify b fun | .cells _ T fz => .cells c T fz | o => o) = w.heap := by
    have hb := (Array.getElem?_eq_some_iff.1 h).1
    apply Array.ext
    · simp
    · intro k h1 h2
      simp only [Array.getElem_modify]
      split
      · rename_i hk
        subst hk
        have : w.heap[b] = .cells c T fz := by simpa [hb] using h
        rw [this]
      · rfl
  rw [this]

theorem add_addr (b o n : Nat) : (⟨b, o, none⟩ : Addr).add n = ⟨b, o + n, none⟩ := by
  unfold Addr.add
  split
  · simp_all
  · rfl

def layA (c : Array Value) (o : Nat) (vs : List Value) : Array Value := (lay c.toList o vs).toArray

theorem run_storeCells {P : Program} (vs : List Value) : ∀ (w : World) (b o i : Nat) (c : Array Value) (T : TypeId), w.heap[b]? = some (.cells c T (0, 0)) → o + i + vs.length ≤ c.size → (∀ v ∈ vs, v.oneCell' = true) →
    (storeCells ⟨b, o, none⟩ vs i).run P w = .ok () (World.putBlock w b (layA c (o + i) vs)) := by
  induction vs with
  | nil =>
    intro w b o i c T h hl _
    simp only [storeCells, Sem.run_pure, layA, lay]
    rw [putBlock_self w b _ T (0, 0)]
    simp [h]
  | cons v vs ih =>
    intro w b o i c T h hl hv
    simp only [List.length_cons] at hl
    have hb := (Array.getElem?_eq_some_iff.1 h).1
    have hc : w.cell? ⟨b, o + i, none⟩ = some (c[o + i]'(by omega)) := by
      rw [cell_of_row w b (o + i) c T (0, 0) h]; simp
    have hf : w.frozen? ⟨b, o + i, none⟩ = false := frozen_of_row w b (o + i) c T h
    simp only [storeCells, Sem.run_bind, add_addr]
    rw [run_store P w _ _ _ (hv v (by simp))]
    simp only [hc, hf, Bool.false_eq_true, if_false, Result.andThen_ok]
    rw [setCell_cells w b (o + i) c T (0, 0) v h]
    have h' := putBlock_same (c' := c.setIfInBounds (o + i) v) h
    rw [ih _ b o (i + 1) _ T h' (by simp; omega) (fun u hu => hv u (by simp [hu])), putBlock_putBlock]
    congr 2
    unfold layA lay
    apply Array.ext'
    simp only [List.length_cons]
    rw [Array.toList_setIfInBounds]
    have hlt : o + i < c.toList.length := by simp; omega
    have e1 : (c.toList.set (o + i) v).take (o + (i + 1)) = c.toList.take (o + i) ++ [v] := by
      rw [← Nat.add_assoc, List.take_succ_eq_append_getElem (by simpa using hlt)]
      simp [List.take_set_of_le]
    have e2 : (c.toList.set (o + i) v).drop (o + (i + 1) + vs.length) = c.toList.drop (o + i + (vs.length + 1)) := by
      rw [List.drop_set_of_lt (by omega)]
      congr 1
      omega
    rw [e1, e2]
    simp

theorem oneCell_flat {τ : Sh} {v : DV} : ∀ u ∈ flat τ v, u.oneCell' = true := by
  induction τ generalizing v with
  | int k => cases v <;> simp [flat, Value.oneCell']
  | bool => cases v <;> simp [flat, Value.oneCell']
  | str => cases v <;> simp [flat, Value.oneCell']
  | unit => cases v <;> simp [flat]
  | arr n e ih =>
    cases v <;> simp [flat]
    intro u i _ hu
    exact ih u hu
  | cons a b iha ihb =>
    cases v <;> simp [flat]
    rintro u (hu | hu)
    · exact iha u hu
    · exact ihb u hu

theorem Ext.put {ρ S w} {b : Nat} {c c' : Array Value} {T : TypeId} {fz : Nat × Nat} (h : w.heap[b]? = some (.cells c T fz)) (hs : c'.size = c.size) : Ext ρ S w ρ S (World.putBlock w b c') :=
  ⟨fun _ _ => rfl, List.prefix_refl _, fun k => by rw [bsz_putBlock h hs]; exact Nat.le_refl _⟩

/-- A live block that may be written gets another content of its shape. -/
theorem Rel.put {ρ : Nat → Nat} {H : Heap} {w : World} (r : Rel ρ H w) {i : Nat} {A B : Blk} {c c' : Array Value} {T : TypeId} {fz : Nat × Nat} (hi : H[i]? = some A)
    (hw : A.wr = true) (hs : B.sh = A.sh) (hbw : B.wr = true) (hc : w.heap[ρ i]? = some (.cells c T fz)) (hz : c'.size = c.size)
    (hB : RB ρ (shs H) (World.putBlock w (ρ i) c') B (some (.cells c' T fz))) :
    Rel ρ (H.set i B) (World.putBlock w (ρ i) c') := by
  have hlen := get_lt hi
  have get : ∀ j C, (H.set i B)[j]? = some C → (j ≠ i ∧ H[j]? = some C) ∨ (j = i ∧ C = B) := fun j C hj => by
    by_cases h : i = j
    · subst h; rw [List.getElem?_set_self hlen] at hj; exact .inr ⟨rfl, (Option.some.inj hj).symm⟩
    · rw [List.getElem?_set_ne h] at hj; exact .inl ⟨fun e => h e.symm, hj⟩
  constructor
  · intro j C hj
    rw [shs_set hi hs]
    rcases get j C hj with ⟨hne, hj'⟩ | ⟨rfl, rfl⟩
    · by_cases hlv : C.lv = true
      · rw [putBlock_other (fun e => r.sep i j A C hi hj' (fun e => hne e.symm) hw hlv e.symm)]
        exact (r.blk j C hj').mono (Ext.put hc hz)
      · cases C <;> first | trivial | (exact absurd rfl hlv)
    · rw [putBlock_same hc]; exact hB
  · intro j k C D hj hk hne hcw hdl
    rcases get j C hj with ⟨hne1, hj'⟩ | ⟨rfl, rfl⟩ <;> rcases get k D hk with ⟨hne2, hk'⟩ | ⟨rfl, rfl⟩
    · exact r.sep j k C D hj' hk' hne hcw hdl
    · exact r.sep j k C A hj' hi hne hcw (by cases A <;> first | rfl | cases hw)
    · exact r.sep j k A D hi hk' hne hw hdl
    · exact absurd rfl hne

/-- A block is given up. -/
theorem Rel.kill {ρ : Nat → Nat} {H : Heap} {w : World} (r : Rel ρ H w) {i : Nat} {A : Blk} (hi : H[i]? = some A) : Rel ρ (H.set i (.dead A.sh)) w := by
  have hlen := get_lt hi
  have get : ∀ j C, (H.set i (.dead A.sh))[j]? = some C → (j ≠ i ∧ H[j]? = some C) ∨ (j = i ∧ C = .dead A.sh) := fun j C hj => by
    by_cases h : i = j
    · subst h; rw [List.getElem?_set_self hlen] at hj; exact .inr ⟨rfl, (Option.some.inj hj).symm⟩
    · rw [List.getElem?_set_ne h] at hj; exact .inl ⟨fun e => h e.symm, hj⟩
  constructor
  · intro j C hj
    rw [shs_set (B := .dead A.sh) hi rfl]
    rcases get j C hj with ⟨_, hj'⟩ | ⟨rfl, rfl⟩
    · exact r.blk j C hj'
    · trivial
  · intro j k C D hj hk hne hcw hdl
    rcases get j C hj with ⟨_, hj'⟩ | ⟨rfl, rfl⟩ <;> rcases get k D hk with ⟨_, hk'⟩ | ⟨rfl, rfl⟩
    · exact r.sep j k C D hj' hk' hne hcw hdl
    · cases hdl
    · cases hcw
    · exact absurd rfl hne
end Ink
/- What one operation of the model does to the abstract state, one lemma a kind of operation. No conditions. -/
namespace Ink
open Go

def Sh.zero : Sh → DV
  | .int k => .int k 0
  | .bool => .bool false
  | .str => .str ⟨#[]⟩
  | .arr _ e => .arr fun _ => e.zero
  | .unit => .unit
  | .cons a b => .cons a.zero b.zero

theorem Has_zero : ∀ τ : Sh, Has τ τ.zero
  | .int _ => rfl
  | .bool => trivial
  | .str => trivial
  | .arr _ e => fun _ _ => Has_zero e
  | .unit => trivial
  | .cons a b => ⟨Has_zero a, Has_zero b⟩

def enc (τ : Sh) (v : DV) : Value := if τ.agg then .agg (flat τ v).toArray else (flat τ v).headD undef

def ofD : Sh → DV → AV
  | .int _, .int k n => .int k n
  | .bool, .bool b => .bool b
  | .str, .str s => .str s
  | τ, v => .agg τ v

theorem Rv_ofD {ρ S w} {τ : Sh} {v : DV} (h : Has τ v) : Rv ρ S w (ofD τ v) (enc τ v) := by
  cases τ <;> cases v <;> simp only [Has] at h <;> first
    | (subst h; simp [ofD, enc, Sh.agg, flat, Rv]; done)
    | (simp [ofD, enc, Sh.agg, flat, Rv]; done)
    | (simp only [ofD, enc, Sh.agg, if_true, Rv]; exact ⟨trivial, h, rfl⟩)
    | (simp only [ofD, enc, Sh.agg, if_true, Rv, Has]; exact ⟨h, rfl⟩)
    | (simp only [ofD, enc, Sh.agg, if_true, Rv]; simp only [Has]; exact ⟨by first | trivial | exact h, by first | trivial | exact h, rfl⟩)
    | (refine ⟨?_, ?_, ?_⟩ <;> first | rfl | exact h)

/-- The shape and the data of a value without pointers. -/
inductive IsD : AV → Sh → DV → Prop where
  | int (k n) : IsD (.int k n) (.int k) (.int k n)
  | bool (b) : IsD (.bool b) .bool (.bool b)
  | str (s) : IsD (.str s) .str (.str s)
  | agg (τ v) : IsD (.agg τ v) τ v

theorem Rv_isD {ρ S w} {a : AV} {τ : Sh} {v : DV} {x : Value} (h : IsD a τ v) (r : Rv ρ S w a x) : Has τ v ∧ x = enc τ v := by
  cases h with
  | int k n => simp only [Rv] at r; subst r; exact ⟨rfl, by simp [enc, Sh.agg, flat]⟩
  | bool b => simp only [Rv] at r; subst r; exact ⟨trivial, by simp [enc, Sh.agg, flat]⟩
  | str s => simp only [Rv] at r; subst r; exact ⟨trivial, by simp [enc, Sh.agg, flat]⟩
  | agg τ v => simp only [Rv] at r; obtain ⟨h1, h2, h3⟩ := r; exact ⟨h2, by simp [enc, h1, h3]⟩

theorem flat_one {τ : Sh} {v : DV} (h : Has τ v) (ha : τ.agg = false) : ∃ x, flat τ v = [x] := by
  cases τ <;> cases v <;> simp only [Has, Sh.agg] at h ha <;> first | exact ⟨_, rfl⟩ | cases ha | cases h

theorem enc_cells {τ : Sh} {v : DV} (h : Has τ v) : (enc τ v).cells = (flat τ v).toArray := by
  unfold enc
  split
  · rfl
  · rename_i ha
    obtain ⟨x, hx⟩ := flat_one h (by simpa using ha)
    have := oneCell_flat (τ := τ) (v := v) x (by simp [hx])
    rw [hx]
    cases x <;> simp_all [Value.cells, Value.oneCell']

/-! ### Types -/
def InfoOk (P : Program) (t : TypeId) (τ : Sh) : Prop := ∃ i, P.info? t = some i ∧ i.size = τ.size ∧ i.zero = some (enc τ τ.zero) ∧ i.bytes ≤ 65536

mutual
def TyOk (P : Program) : Sh → TypeId → Prop
  | .int k, t => P.underlying t = some (.int k) ∧ InfoOk P t (.int k)
  | .bool, t => P.underlying t = some .bool ∧ InfoOk P t .bool
  | .str, t => P.underlying t = some .string ∧ InfoOk P t .str
  | .arr n e, t => (∃ et, P.underlying t = some (.array n et) ∧ TyOk P e et) ∧ InfoOk P t (.arr n e)
  | .unit, t => P.underlying t = some (.struct #[]) ∧ InfoOk P t .unit
  | .cons a b, t => (∃ fs f r, P.underlying t = some (.struct fs) ∧ fs.toList = f :: r ∧ f.offset = 0 ∧ a.size ≠ 0 ∧ TyOk P a f.type ∧ FldOk P b r a.size) ∧ InfoOk P t (.cons a b)
def FldOk (P : Program) : Sh → List Field → Nat → Prop
  | .cons a b, f :: r, o => f.offset = o ∧ a.size ≠ 0 ∧ TyOk P a f.type ∧ FldOk P b r (o + a.size)
  | .unit, [], _ => True
  | _, _, _ => False
end

theorem TyOk.info {P : Program} {τ : Sh} {t : TypeId} (h : TyOk P τ t) : InfoOk P t τ := by
  cases τ <;> simp only [TyOk] at h <;> exact h.2

theorem TyOk.isAgg {P : Program} {τ : Sh} {t : TypeId} (h : TyOk P τ t) (w : World) : (isAgg t).run P w = .ok τ.agg w := by
  unfold Go.isAgg
  rw [Sem.run_bind]
  cases τ <;> simp only [TyOk] at h <;> simp only [Sh.agg]
  · rw [run_underlying h.1]; rfl
  · rw [run_underlying h.1]; rfl
  · rw [run_underlying h.1]; rfl
  · obtain ⟨⟨et, h, _⟩, _⟩ := h; rw [run_underlying h]; rfl
  · rw [run_underlying h.1]; rfl
  · obtain ⟨⟨fs, f, r, h, _⟩, _⟩ := h; rw [run_underlying h]; rfl

theorem TyOk.sizeOf {P : Program} {τ : Sh} {t : TypeId} (h : TyOk P τ t) (w : World) : (Go.sizeOf t).run P w = .ok τ.size w := by
  obtain ⟨i, h1, h2, _⟩ := h.info
  simp [Go.sizeOf, typeInfo, h1, h2]
theorem TyOk.zero {P : Program} {τ : Sh} {t : TypeId} (h : TyOk P τ t) (w : World) : (zeroValue t).run P w = .ok (enc τ τ.zero) w := by
  obtain ⟨i, h1, _, h2, _⟩ := h.info
  simp [zeroValue, typeInfo, h1, h2]
theorem TyOk.und {P : Program} {τ : Sh} {t : TypeId} (h : TyOk P τ t) : ∃ d, P.underlying t = some d := by
  cases τ <;> simp only [TyOk] at h
  · exact ⟨_, h.1⟩
  · exact ⟨_, h.1⟩
  · exact ⟨_, h.1⟩
  · obtain ⟨⟨et, h, _⟩, _⟩ := h; exact ⟨_, h⟩
  · exact ⟨_, h.1⟩
  · obtain ⟨⟨fs, f, r, h, _⟩, _⟩ := h; exact ⟨_, h⟩

def Sh.fld (τ : Sh) (i : Nat) : Option Sh := (τ.at? [i]).map (·.2)

theorem FldOk.get {P : Program} : ∀ {b : Sh} {r : List Field} {o i : Nat} {s : Sh}, FldOk P b r o → b.fld i = some s →
    ∃ f o', r[i]? = some f ∧ b.at? [i] = some (o', s) ∧ f.offset = o + o' ∧ TyOk P s f.type ∧ s.size ≠ 0
  | .cons a b, f :: r, o, 0, s, h, hs => by
    simp only [FldOk] at h
    simp [Sh.fld, Sh.at?] at hs
    subst hs
    exact ⟨f, 0, by simp, by simp [Sh.at?], by omega, h.2.2.1, h.2.1⟩
  | .cons a b, f :: r, o, i + 1, s, h, hs => by
    simp only [FldOk] at h
    have hs' : b.fld i = some s := by
      simp only [Sh.fld, Sh.at?, Option.map_map] at hs ⊢
      exact hs
    obtain ⟨g, o', h1, h2, h3, h4, h5⟩ := FldOk.get h.2.2.2 hs'
    exact ⟨g, a.size + o', by simpa using h1, by simp [Sh.at?, h2], by omega, h4, h5⟩
  | .unit, [], _, _, _, _, hs => by simp [Sh.fld, Sh.at?] at hs

theorem TyOk.field {P : Program} {τ : Sh} {t : TypeId} {i : Nat} {s : Sh} (h : TyOk P τ t) (hn : ∀ n e, τ ≠ .arr n e) (hs : τ.fld i = some s) :
    ∃ fs f o, P.underlying t = some (.struct fs) ∧ fs[i]? = some f ∧ τ.at? [i] = some (o, s) ∧ f.offset = o ∧ TyOk P s f.type ∧ s.size ≠ 0 := by
  cases τ <;> first | (simp [Sh.fld, Sh.at?] at hs; done) | (exact absurd rfl (hn _ _)) | skip
  rename_i a b
  simp only [TyOk] at h
  obtain ⟨⟨fs, f, r, h1, h2, h3, h4, h5, h6⟩, _⟩ := h
  have : FldOk P (.cons a b) fs.toList 0 := by rw [h2]; simp only [FldOk]; exact ⟨h3, h4, h5, by simpa using h6⟩
  obtain ⟨g, o, k1, k2, k3, k4, k5⟩ := FldOk.get this hs
  exact ⟨fs, g, o, h1, by simpa using k1, k2, by omega, k4, k5⟩

/-- A one-cell variable that holds a pointer, a slice or a function. -/
def RefOk (P : Program) (t : TypeId) (z : AV) : Prop :=
  ∃ d i, P.underlying t = some d ∧ P.info? t = some i ∧ i.size = 1 ∧ (∃ x, i.zero = some x ∧ x.oneCell' = true ∧ (∀ ρ S w, Rv ρ S w z x)) ∧
    (match d with | .struct _ | .array _ _ => false | _ => true) = true

abbrev shTwo : Sh := .cons (.int .i8) (.cons (.int .i8) .unit)
/-- A map's type: its keys are two small numbers, compared part by part, its values are numbers. -/
def MapOk (P : Program) (t : TypeId) : Prop := ∃ kt et fs f g, P.underlying t = some (.map kt et) ∧ TyOk P shTwo kt ∧ TyOk P (.int .i64) et ∧ P.stoodInHeld kt = false ∧ P.underlying kt = some (.struct fs) ∧ fs.toList = [f, g] ∧ f.name ≠ "_" ∧ g.name ≠ "_"

/-- How what a region's order leaves open is settled: pairs, told apart by which comes first, and in the end an order. -/
inductive OT where
  | txt
  | perm (π : List Nat)
  | split (i j : Nat) (a b : OT)

structure Ctx where
  P : Program
  ty : TypeId → Option Sh
  sl : TypeId → Option Sh
  rf : TypeId → Option AV
  eq : TypeId → Bool
  quiet : FuncId → Bool
  ap : Nat → Option Tmp → List (Tmp × Tmp)
  alt : Nat → Option Tmp → Nat → OT
  sk : TypeId → Bool := fun _ => false
  mp : TypeId → Bool := fun _ => false

structure Ctx.Ok (C : Ctx) : Prop where
  mixed : C.P.follows .mixedOrders = true
  ty : ∀ t τ, C.ty t = some τ → TyOk C.P τ t
  sl : ∀ t e, C.sl t = some e → ∃ et, C.P.underlying t = some (.slice et) ∧ TyOk C.P e et ∧ e.size ≠ 0
  rf : ∀ t z, C.rf t = some z → RefOk C.P t z
  eq : ∀ t, C.eq t = true → C.P.eqGuardType C.P.depth t = false ∧ C.P.stoodInHeld t = false ∧ (∀ fs, C.P.underlying t = some (.struct fs) → ∀ f ∈ fs.toList, f.name ≠ "_")
  mp : ∀ t, C.mp t = true → MapOk C.P t

/-! ### The state -/
structure Ent where
  ρ : Nat → Nat
  w : World
  S : List BSh
  W : List Nat
  K : Nat → Prop
  ds : List Deferred

structure Inv (G : Ent) (ρ : Nat → Nat) (H : Heap) (w : World) : Prop where
  rel : Rel ρ H w
  os : w.os = G.w.os
  tape : w.tape = G.w.tape
  out : w.output = G.w.output
  size : G.w.heap.size ≤ w.heap.size
  old : ∀ b, G.K b → b < G.w.heap.size → (∀ i, i ∈ G.W → i < G.S.length → G.ρ i ≠ b) → w.heap[b]? = G.w.heap[b]?
  sz : ∀ b, bsz G.w b ≤ bsz w b
  pre : ∀ i, i < G.S.length → ρ i = G.ρ i
  new : ∀ i, G.S.length ≤ i → i < H.length → G.K (ρ i) → G.w.heap.size ≤ ρ i
  sh : G.S <+: shs H

def Ent.may (G : Ent) (b : Nat) : Prop := G.S.length ≤ b ∨ b ∈ G.W

theorem Inv.len {G ρ H w} (h : Inv G ρ H w) : G.S.length ≤ H.length := by have := h.sh.length_le; rwa [shs_length] at this

theorem Inv.push {G ρ H w} (h : Inv G ρ H w) {B : Blk} {o : Obj} (hB : RB (upd ρ H.length w.heap.size) (shs (H ++ [B])) (World.push w o) B (some o)) :
    Inv G (upd ρ H.length w.heap.size) (H ++ [B]) (World.push w o) := by
  have hl := h.len
  refine ⟨h.rel.push hB, h.os, h.tape, h.out, ?_, ?_, fun b => Nat.le_trans (h.sz b) (bsz_push w o b), fun i hi => ?_, fun i h1 h2 hk => ?_, ?_⟩
  · have := h.size; rw [push_heap, Array.size_push]; omega
  · intro b hk hb hn
    rw [push_heap, Array.getElem?_push, if_neg (by have := h.size; omega)]
    exact h.old b hk hb hn
  · rw [upd_ne (by omega)]; exact h.pre i hi
  · by_cases hi : i = H.length
    · subst hi; rw [upd_same]; exact h.size
    · rw [upd_ne hi] at hk ⊢; exact h.new i h1 (by simp at h2; omega) hk
  · rw [shs_append]; exact h.sh.trans (List.prefix_append _ _)

theorem Inv.put {G ρ H w} (h : Inv G ρ H w) {i : Nat} {A B : Blk} {c c' : Array Value} {T : TypeId} {fz : Nat × Nat} (hm : G.may i) (hi : H[i]? = some A)
    (hw : A.wr = true) (hs : B.sh = A.sh) (hbw : B.wr = true) (hc : w.heap[ρ i]? = some (.cells c T fz)) (hz : c'.size = c.size)
    (hB : RB ρ (shs H) (World.putBlock w (ρ i) c') B (some (.cells c' T fz))) : Inv G ρ (H.set i B) (World.putBlock w (ρ i) c') := by
  refine ⟨h.rel.put hi hw hs hbw hc hz hB, h.os, h.tape, h.out, by rw [putBlock_size]; exact h.size, ?_, fun b => by rw [bsz_putBlock hc hz]; exact h.sz b, h.pre, fun j h1 h2 => h.new j h1 (by simpa using h2), by rw [shs_set hi hs]; exact h.sh⟩
  intro b hk hb hn
  rw [putBlock_other]
  · exact h.old b hk hb hn
  · intro e
    rcases hm with hm | hm
    · have := h.new i hm (get_lt hi) (e ▸ hk); omega
    · by_cases hl : i < G.S.length
      · exact hn i hm hl (by rw [← h.pre i hl]; exact e.symm)
      · have := h.new i (by omega) (get_lt hi) (e ▸ hk); omega

theorem Inv.kill {G ρ H w} (h : Inv G ρ H w) {i : Nat} {A : Blk} (hi : H[i]? = some A) : Inv G ρ (H.set i (.dead A.sh)) w :=
  ⟨h.rel.kill hi, h.os, h.tape, h.out, h.size, h.old, h.sz, h.pre, fun j h1 h2 => h.new j h1 (by simpa using h2), by rw [shs_set (B := .dead A.sh) hi rfl]; exact h.sh⟩

def opTmps (o : Op) : List Tmp := o.operands.toList.filterMap fun | .tmp t => some t | _ => none

def ev (look : Tmp → AV) : Operand → AV
  | .tmp t => look t
  | .const (.int k n) => .int k n
  | .const (.bool b) => .bool b
  | .const (.string s) => .str s
  | .const (.pointer none) => .nilp
  | .const (.slice none 0 0) => .nils
  | .func f => .fn f [] []
  | _ => .junk

def EnvOn (ρ : Nat → Nat) (S : List BSh) (w : World) (o : Op) (look : Tmp → AV) (a : Act) : Prop := ∀ t ∈ opTmps o, Rv ρ S w (look t) (a.tmps.getD t undef)

theorem EnvOn.ev {ρ S w o look a} (h : EnvOn ρ S w o look a) {x : Operand} (hx : x ∈ o.operands) : Rv ρ S w (ev look x) (a.eval x) := by
  cases x with
  | tmp t => exact h t (by simp only [opTmps, List.mem_filterMap]; exact ⟨_, by simpa using hx, rfl⟩)
  | const v =>
    cases v <;> try trivial
    · rename_i p; cases p <;> first | rfl | trivial
    · rename_i p n m
      cases p with
      | some _ => trivial
      | none =>
        cases n with
        | zero => cases m with
          | zero => rfl
          | succ _ => trivial
        | succ _ => trivial
  | global g => trivial
  | func f => exact ⟨[], [], rfl, trivial, trivial⟩

/-- One operation, wanted: from the heap 'H' to the value 'v' and the heap 'H''. -/
def OpStep (P : Program) (G : Ent) (o : Oper) (look : Tmp → AV) (H : Heap) (v : AV) (H' : Heap) : Prop :=
  ∀ ρ a w (K : Act → World → Prop) Q, Inv G ρ H w → EnvOn ρ (shs H) w o.op look a →
    (∀ x w' ρ', Inv G ρ' H' w' → Ext ρ (shs H) w ρ' (shs H') w' → Rv ρ' (shs H') w' v x → K (a.put o.dst x) w') → o.wp P a w K Q

theorem OpStep.value {P G o look H v} (h : ∀ ρ a w, Inv G ρ H w → EnvOn ρ (shs H) w o.op look a → ∃ x, (execOp a.eval o).run P w = .ok (.value x) w ∧ Rv ρ (shs H) w v x) : OpStep P G o look H v H := by
  intro ρ a w K Q hi he hk
  obtain ⟨x, hr, hx⟩ := h ρ a w hi he
  unfold Oper.wp
  rw [hr]
  exact hk x w ρ hi (Ext.refl _ _ _) hx

theorem OpStep.made {P G o look H v B} (h : ∀ ρ a w, Inv G ρ H w → EnvOn ρ (shs H) w o.op look a → ∃ x ob, (execOp a.eval o).run P w = .ok (.value x) (World.push w ob) ∧
    RB (upd ρ H.length w.heap.size) (shs (H ++ [B])) (World.push w ob) B (some ob) ∧ Rv (upd ρ H.length w.heap.size) (shs (H ++ [B])) (World.push w ob) v x) : OpStep P G o look H v (H ++ [B]) := by
  intro ρ a w K Q hi he hk
  obtain ⟨x, ob, hr, hB, hx⟩ := h ρ a w hi he
  unfold Oper.wp
  rw [hr]
  exact hk x _ _ (hi.push hB) (Ext.push B ob) hx

section ops
variable {P : Program} {G : Ent} {o : Oper} {look : Tmp → AV} {H : Heap}

theorem step_move {x : Operand} (ho : o.op = .move x) : OpStep P G o look H (ev look x) H :=
  OpStep.value fun ρ a w _ he => ⟨a.eval x, by rw [execOp.eq_1]; simp only [ho]; rfl, he.ev (by simp [ho, Op.operands])⟩
theorem step_assign {x : Operand} (ho : o.op = .assign x) : OpStep P G o look H (ev look x) H :=
  OpStep.value fun ρ a w _ he => ⟨a.eval x, by rw [execOp.eq_1]; simp only [ho]; rfl, he.ev (by simp [ho, Op.operands])⟩
end ops
end Ink
/- Loads, stores, new variables, addresses: what each does to the abstract state. No conditions. -/
namespace Ink
open Go

def Blk.get? : Blk → List Nat → Option DV
  | .data _ v, p => some (v.get p)
  | .seq _ _ l, i :: p => (l[i]?).map fun y => y.get p
  | .win _ _ l, i :: p => (l[i]?).map fun y => y.get p
  | _, _ => none

def Blk.set? : Blk → List Nat → DV → Option Blk
  | .data σ v, p, x => some (.data σ (v.set p x))
  | .seq true e l, i :: p, x => (l[i]?).map fun y => .seq true e (l.set i (y.set p x))
  | _, _, _ => none

theorem flatMap_at {e : Sh} : ∀ {l : List DV} {i : Nat} {y : DV}, (∀ x ∈ l, Has e x) → l[i]? = some y → LiesAt (l.flatMap (flat e)) (i * e.size) (flat e y)
  | [], _, _, _, hi => by simp at hi
  | z :: l, 0, y, _, hi => by
    simp at hi; subst hi
    simp only [List.flatMap_cons, Nat.zero_mul]
    exact (LiesAt.self _).post
  | z :: l, i + 1, y, h, hi => by
    have := (flatMap_at (e := e) (l := l) (i := i) (y := y) (fun x hx => h x (List.mem_cons_of_mem _ hx)) (by simpa using hi)).pre (a := flat e z)
    rw [flat_length (h z (by simp))] at this
    rw [List.flatMap_cons, show (i + 1) * e.size = e.size + i * e.size by rw [Nat.succ_mul]; omega]
    exact this

theorem flatMap_len {e : Sh} : ∀ {l : List DV}, (∀ x ∈ l, Has e x) → (l.flatMap (flat e)).length = l.length * e.size
  | [], _ => by simp
  | z :: l, h => by
    rw [List.flatMap_cons, List.length_append, flat_length (h z (by simp)), flatMap_len fun x hx => h x (by simp [hx]), List.length_cons, Nat.succ_mul]
    omega

theorem lay_length {α : Type} {l xs : List α} {o : Nat} (h : o + xs.length ≤ l.length) : (lay l o xs).length = l.length := by
  simp [lay]; omega

theorem lay_mid {α : Type} {a m b ys : List α} (h : ys.length = m.length) : lay (a ++ m ++ b) a.length ys = a ++ ys ++ b := by
  unfold lay
  rw [h]
  simp [List.drop_append]

theorem lay_lay {α : Type} {l m xs : List α} {k o : Nat} (h : LiesAt l k m) (ho : o + xs.length ≤ m.length) : lay l k (lay m o xs) = lay l (k + o) xs := by
  obtain ⟨a, b, rfl, rfl⟩ := h
  rw [lay_mid (lay_length ho)]
  have : lay (a ++ (m ++ b)) (a.length + o) xs = a ++ lay (m ++ b) o xs := lay_pre
  rw [← List.append_assoc] at this
  rw [this, lay_post ho, List.append_assoc]

theorem flatMap_set {e : Sh} {l : List DV} {i : Nat} {y z : DV} (h : ∀ x ∈ l, Has e x) (hz : Has e z) (hi : l[i]? = some y) :
    (l.set i z).flatMap (flat e) = lay (l.flatMap (flat e)) (i * e.size) (flat e z) := by
  induction l generalizing i with
  | nil => simp at hi
  | cons x l ih =>
    cases i with
    | zero =>
      simp only [List.set_cons_zero, List.flatMap_cons, Nat.zero_mul]
      have := lay_mid (a := []) (m := flat e x) (b := l.flatMap (flat e)) (ys := flat e z) (by rw [flat_length hz, flat_length (h x (by simp))])
      simpa using this.symm
    | succ i =>
      simp only [List.set_cons_succ, List.flatMap_cons]
      rw [ih (fun x hx => h x (by simp [hx])) (by simpa using hi)]
      have := lay_pre (a := flat e x) (l := l.flatMap (flat e)) (o := i * e.size) (xs := flat e z)
      rw [flat_length (h x (by simp))] at this
      rw [← this, show (i + 1) * e.size = e.size + i * e.size by rw [Nat.succ_mul]; omega]

theorem LiesAt.upto {α : Type} {l l' xs : List α} {o : Nat} (h : LiesAt l o xs) (hp : l <+: l') : LiesAt l' o xs := by
  obtain ⟨t, rfl⟩ := hp; exact h.post
theorem LiesAt.trans {α : Type} {l m xs : List α} {k o : Nat} (h : LiesAt l k m) (h' : LiesAt m o xs) : LiesAt l (k + o) xs := by
  obtain ⟨a, b, rfl, rfl⟩ := h
  have := (h'.post (b := b)).pre (a := a)
  rwa [← List.append_assoc] at this

theorem blk_get {ρ S w B p o τ v} {ob : Option Obj} (r : RB ρ S w B ob) (hp : B.sh.at? p = some (o, τ)) (hv : B.get? p = some v) :
    ∃ c T fz, ob = some (.cells c T fz) ∧ Has τ v ∧ LiesAt c.toList o (flat τ v) := by
  cases B with
  | data σ u =>
    obtain ⟨h, T, rfl⟩ := r
    simp only [Blk.get?, Option.some.injEq] at hv
    subst hv
    obtain ⟨h1, h2, _⟩ := get_flat h hp
    exact ⟨_, T, _, rfl, h1, h2⟩
  | seq wr e l =>
    obtain ⟨h, c, T, fz, rfl, hc, _⟩ := r
    cases p with
    | nil => simp [Blk.get?] at hv
    | cons i p =>
      simp only [Blk.get?, Option.map_eq_some_iff] at hv
      obtain ⟨y, hy, rfl⟩ := hv
      simp only [Blk.sh, BSh.at?, Option.map_eq_some_iff] at hp
      obtain ⟨⟨o', τ'⟩, hp, heq⟩ := hp
      cases heq
      obtain ⟨h1, h2, _⟩ := get_flat (h y (List.mem_of_getElem? hy)) hp
      exact ⟨_, T, _, rfl, h1, ((flatMap_at h hy).upto hc).trans h2⟩
  | win f e l =>
    obtain ⟨h, c, T, fz, rfl, hc⟩ := r
    cases p with
    | nil => simp [Blk.get?] at hv
    | cons i p =>
      simp only [Blk.get?, Option.map_eq_some_iff] at hv
      obtain ⟨y, hy, rfl⟩ := hv
      simp only [Blk.sh, BSh.at?, Option.map_eq_some_iff] at hp
      obtain ⟨⟨o', τ'⟩, hp, heq⟩ := hp
      cases heq
      obtain ⟨h1, h2, _⟩ := get_flat (h y (List.mem_of_getElem? hy)) hp
      exact ⟨_, T, _, rfl, h1, hc.trans ((flatMap_at h hy).trans h2)⟩
  | ref x => simp [Blk.get?] at hv
  | mpb x => simp [Blk.get?] at hv
  | dead s => simp [Blk.get?] at hv

theorem blk_set {ρ S w B B' p o τ x} {ob : Option Obj} (r : RB ρ S w B ob) (hp : B.sh.at? p = some (o, τ)) (hx : Has τ x) (hs : B.set? p x = some B') :
    ∃ c T, ob = some (.cells c T (0, 0)) ∧ o + (flat τ x).length ≤ c.size ∧ B'.sh = B.sh ∧ B.wr = true ∧ B'.wr = true ∧ ∀ ρ' S' w', RB ρ' S' w' B' (some (.cells (layA c o (flat τ x)) T (0, 0))) := by
  cases B with
  | data σ u =>
    obtain ⟨h, T, rfl⟩ := r
    simp only [Blk.set?, Option.some.injEq] at hs
    subst hs
    obtain ⟨h1, h2⟩ := set_flat h hp hx
    have h3 := (get_flat h hp).2.2
    refine ⟨_, T, rfl, by simp [flat_length hx, flat_length h]; exact h3, rfl, rfl, rfl, fun ρ' S' w' => ⟨h1, T, ?_⟩⟩
    rw [h2]; rfl
  | seq wr e l =>
    obtain ⟨h, c, T, fz, rfl, hc, hz⟩ := r
    cases wr with
    | false => simp [Blk.set?] at hs
    | true =>
    have hz := hz rfl
    subst hz
    cases p with
    | nil => simp [Blk.set?] at hs
    | cons i p =>
      simp only [Blk.set?, Option.map_eq_some_iff] at hs
      obtain ⟨y, hy, rfl⟩ := hs
      simp only [Blk.sh, BSh.at?, Option.map_eq_some_iff] at hp
      obtain ⟨⟨o', τ'⟩, hp, heq⟩ := hp
      obtain ⟨rfl, rfl⟩ := Prod.mk.inj heq
      dsimp only at hx ⊢
      have hyh := h y (List.mem_of_getElem? hy)
      obtain ⟨h1, h2⟩ := set_flat hyh hp hx
      have h3 := (get_flat hyh hp).2.2
      have hat := flatMap_at h hy
      have hle : o' + (flat τ' x).length ≤ (flat e y).length := by rw [flat_length hx, flat_length hyh]; exact h3
      have hcat : i * e.size + o' + (flat τ' x).length ≤ (l.flatMap (flat e)).length := by
        obtain ⟨a, b, h4, h5⟩ := hat
        have := congrArg List.length h4
        simp only [List.length_append] at this
        omega
      obtain ⟨t, ht⟩ := hc
      have hcl : (l.flatMap (flat e)).length ≤ c.size := by
        have := congrArg List.length ht
        simp only [List.length_append, Array.length_toList] at this
        omega
      refine ⟨c, T, rfl, by omega, rfl, rfl, rfl, fun ρ' S' w' => ⟨?_, _, T, _, rfl, ?_, fun _ => rfl⟩⟩
      · intro z hz
        rcases List.mem_or_eq_of_mem_set hz with hz | rfl
        · exact h z hz
        · exact h1
      · rw [flatMap_set h h1 hy, h2, lay_lay hat hle]
        simp only [layA]
        rw [← ht, lay_post hcat]
        exact List.prefix_append _ _
  | win f e l => simp [Blk.set?] at hs
  | ref y => simp [Blk.set?] at hs
  | mpb y => simp [Blk.set?] at hs
  | dead s => simp [Blk.set?] at hs

theorem run_loadVar {P : Program} {w : World} {g o : Nat} {c : Array Value} {T : TypeId} {fz : Nat × Nat} {τ : Sh} {t : TypeId} {v : DV} (hg : w.heap[g]? = some (.cells c T fz)) (ht : TyOk P τ t)
    (hv : Has τ v) (hl : LiesAt c.toList o (flat τ v)) : (loadVar t ⟨g, o, none⟩).run P w = .ok (enc τ v) w := by
  obtain ⟨a, b, h1, rfl⟩ := hl
  have hcell : ∀ j x, (flat τ v)[j]? = some x → w.cell? ((⟨g, a.length, none⟩ : Addr).add j) = some x := fun j x hx => by
    rw [add_addr, cell_of_row w g _ c T fz hg, ← Array.getElem?_toList, h1, List.append_assoc, List.getElem?_append_right (by omega), List.getElem?_append_left (by simpa using get_lt hx)]
    simpa using hx
  unfold loadVar
  rw [Sem.run_bind, ht.isAgg w]
  simp only [Result.andThen_ok]
  cases ha : τ.agg with
  | true =>
    have := run_loadCells_list (P := P) w ⟨g, a.length, none⟩ (flat τ v) hcell
    rw [flat_length hv] at this
    simp [Sem.run_bind, ht.sizeOf w, this, enc, ha]
  | false =>
    obtain ⟨x, hx⟩ := flat_one hv ha
    have hc := hcell 0 x (by simp [hx])
    rw [add_addr] at hc
    simp only [Nat.add_zero] at hc
    simp [hc, enc, ha, hx]

section ops
variable {P : Program} {G : Ent} {o : Oper} {look : Tmp → AV} {H : Heap}

theorem step_load {t : TypeId} {x : Operand} {b : Nat} {p : List Nat} {τ : Sh} {B : Blk} {v : DV} (ho : o.op = .load t x) (hx : ev look x = .ptr b p τ) (ht : TyOk P τ t) (hB : H[b]? = some B)
    (hv : B.get? p = some v) : OpStep P G o look H (ofD τ v) H :=
  OpStep.value fun ρ a w hi he => by
    have hr := he.ev (x := x) (by simp [ho, Op.operands])
    rw [hx] at hr
    obtain ⟨s, off, h1, h2, h3⟩ := hr
    have : s = B.sh := by rw [shs_get hB] at h1; exact (Option.some.inj h1).symm
    subst this
    obtain ⟨c, T, fz, hc, hh, hl⟩ := blk_get (hi.rel.blk b B hB) h2 hv
    refine ⟨enc τ v, ?_, Rv_ofD hh⟩
    rw [execOp.eq_1]
    simp only [ho, h3, Instr.loadAt, Instr.sureAddr, Sem.run_bind, Sem.run_pure, Result.andThen_ok, run_loadVar hc ht hh hl]

theorem step_loadref {t : TypeId} {x : Operand} {b : Nat} {v z : AV} (ho : o.op = .load t x) (hx : ev look x = .rptr b) (ht : RefOk P t z) (hB : H[b]? = some (.ref v)) : OpStep P G o look H v H :=
  OpStep.value fun ρ a w hi he => by
    have hr := he.ev (x := x) (by simp [ho, Op.operands])
    rw [hx] at hr
    obtain ⟨_, h3⟩ := hr
    obtain ⟨u, T, hc, hh⟩ := hi.rel.blk b _ hB
    refine ⟨u, ?_, hh⟩
    obtain ⟨d, i, hd, hi1, hi2, _, hdd⟩ := ht
    have hcell : w.cell? ⟨ρ b, 0, none⟩ = some u := by rw [cell_of_row w _ _ _ _ _ hc]; rfl
    have hagg : (isAgg t).run P w = .ok false w := by
      unfold isAgg
      rw [Sem.run_bind, run_underlying hd w]
      cases d <;> first | rfl | cases hdd
    rw [execOp.eq_1]
    simp only [ho, h3, Instr.loadAt, Instr.sureAddr, Sem.run_bind, Sem.run_pure, Result.andThen_ok, loadVar, hagg]
    simp [hcell]

/-- A store: the heap's block b gets the content B'. -/
theorem step_store {t : TypeId} {x y : Operand} {b : Nat} {p : List Nat} {τ : Sh} {B B' : Blk} {v : DV} (ho : o.op = .store t x y) (hx : ev look x = .ptr b p τ) (ht : TyOk P τ t)
    (hy : IsD (ev look y) τ v) (hm : G.may b) (hB : H[b]? = some B) (hs : B.set? p v = some B') : OpStep P G o look H .junk (H.set b B') := by
  intro ρ a w K Q hi he hk
  have hrx := he.ev (x := x) (by simp [ho, Op.operands])
  have hry := he.ev (x := y) (by simp [ho, Op.operands])
  rw [hx] at hrx
  obtain ⟨s, off, h1, h2, h3⟩ := hrx
  have : s = B.sh := by rw [shs_get hB] at h1; exact (Option.some.inj h1).symm
  subst this
  obtain ⟨hh, h4⟩ := Rv_isD hy hry
  obtain ⟨c, T, hc, hle, hsh, hw, hw', hRB⟩ := blk_set (hi.rel.blk b B hB) h2 hh hs
  have hcells := enc_cells hh
  have hrun : (execOp a.eval o).run P w = .ok .skip (World.putBlock w (ρ b) (layA c off (flat τ v))) := by
    rw [execOp.eq_1]
    have hst := run_storeCells (P := P) (flat τ v) w (ρ b) off 0 c T hc (by simpa using hle) oneCell_flat
    simp only [Nat.add_zero] at hst
    simp only [ho, h3, h4, Instr.storeAt, Instr.sureAddr, Sem.run_bind, Sem.run_pure, Result.andThen_ok, storeVar, ht.sizeOf w, ne_eq, hcells, List.size_toArray, flat_length hh, not_true_eq_false, if_false, hst]
  have hz : (layA c off (flat τ v)).size = c.size := by
    simp only [layA, List.size_toArray]
    rw [lay_length (by simpa using hle)]
    simp
  unfold Oper.wp
  rw [hrun]
  have hE := Ext.put (ρ := ρ) (S := shs H) (c' := layA c off (flat τ v)) hc hz
  refine hk undef _ ρ (hi.put hm hB hw hsh hw' hc hz (hRB _ _ _)) ?_ trivial
  rw [shs_set hB hsh]
  exact hE

def AV.oneB : AV → Bool
  | .agg _ _ => false
  | .tup _ => false
  | .junk => false
  | .raw _ => false
  | _ => true

theorem oneCell_rv {ρ S w} {v : AV} {u : Value} (h : Rv ρ S w v u) (hv : v.oneB = true) : u.oneCell' = true := by
  cases v <;> simp only [Rv, AV.oneB] at h hv <;> first | (cases hv; done) | (subst h; rfl) | skip
  · obtain ⟨_, _, _, _, rfl⟩ := h; rfl
  · obtain ⟨_, rfl⟩ := h; rfl
  · obtain ⟨_, _, ⟨_, rfl, _⟩ | ⟨_, _, rfl⟩⟩ := h <;> rfl
  · obtain ⟨_, _, _, ⟨_, rfl⟩ | ⟨_, _, _, rfl⟩⟩ := h <;> rfl
  · obtain ⟨_, _, rfl⟩ := h; rfl
  · obtain ⟨_, _, ⟨_, rfl, _⟩ | ⟨_, _, rfl⟩⟩ := h <;> rfl
  · obtain ⟨_, _, rfl, _⟩ := h; rfl
  · obtain ⟨_, rfl⟩ := h; rfl

theorem step_storeref {t : TypeId} {x y : Operand} {b : Nat} {z v : AV} (ho : o.op = .store t x y) (hx : ev look x = .rptr b) (ht : RefOk P t z)
    (hv : (ev look y).oneB = true) (hm : G.may b) (hB : H[b]? = some (.ref v)) : OpStep P G o look H .junk (H.set b (.ref (ev look y))) := by
  intro ρ a w K Q hi he hk
  have hrx := he.ev (x := x) (by simp [ho, Op.operands])
  have hry := he.ev (x := y) (by simp [ho, Op.operands])
  rw [hx] at hrx
  obtain ⟨_, h3⟩ := hrx
  obtain ⟨u, T, hc, hh⟩ := hi.rel.blk b _ hB
  obtain ⟨d, i, hd, hi1, hi2, _, hdd⟩ := ht
  have hone : (a.eval y).oneCell' = true := oneCell_rv hry hv
  have hcs : (a.eval y).cells = #[a.eval y] := by cases hq : a.eval y <;> simp_all [Value.cells, Value.oneCell']
  have hrun : (execOp a.eval o).run P w = .ok .skip (World.putBlock w (ρ b) #[a.eval y]) := by
    rw [execOp.eq_1]
    have hst := run_storeCells (P := P) [a.eval y] w (ρ b) 0 0 _ T hc (by simp) (by simpa using hone)
    have hso : (Go.sizeOf t).run P w = .ok 1 w := by simp [Go.sizeOf, typeInfo, hi1, hi2]
    simp only [Nat.add_zero] at hst
    simp only [ho, h3, hcs, Instr.storeAt, Instr.sureAddr, Sem.run_bind, Sem.run_pure, Result.andThen_ok, storeVar, hso, ne_eq, if_false]
    simp [hst, layA, lay]
  unfold Oper.wp
  rw [hrun]
  have hz : (#[a.eval y] : Array Value).size = (#[u] : Array Value).size := rfl
  have hE := Ext.put (ρ := ρ) (S := shs H) (c' := #[a.eval y]) hc hz
  refine hk undef _ ρ (hi.put (A := .ref v) (B := .ref (ev look y)) hm hB rfl rfl rfl hc hz ⟨_, T, rfl, hry.mono hE⟩) ?_ trivial
  rw [shs_set (B := .ref (ev look y)) hB rfl]
  exact hE

theorem RB_new {ρ S w τ v T} (h : Has τ v) : RB ρ S w (.data τ v) (some (.cells (flat τ v).toArray T (0, 0))) := ⟨h, T, rfl⟩

theorem Rv_new {ρ : Nat → Nat} {H : Heap} {w w' : World} {τ : Sh} {v : DV} : Rv (upd ρ H.length w.heap.size) (shs (H ++ [.data τ v])) w' (.ptr H.length [] τ) (.pointer (some ⟨w.heap.size, 0, none⟩)) :=
  ⟨.data τ, 0, by simp [shs, Blk.sh], by cases τ <;> rfl, by rw [upd_same]⟩

theorem step_alloc {t : TypeId} {τ : Sh} (ho : o.op = .alloc t) (ht : TyOk P τ t) : OpStep P G o look H (.ptr H.length [] τ) (H ++ [.data τ τ.zero]) :=
  OpStep.made fun ρ a w hi he => by
    refine ⟨.pointer (some ⟨w.heap.size, 0, none⟩), .cells (flat τ τ.zero).toArray t (0, 0), ?_, RB_new (Has_zero τ), Rv_new⟩
    rw [execOp.eq_1]
    simp only [ho, Instr.alloc, Sem.run_bind, ht.zero w, Result.andThen_ok, newVar, newRow, enc_cells (Has_zero τ), run_newObj, Sem.run_pure]
    rfl

theorem step_allocref {t : TypeId} {z : AV} (ho : o.op = .alloc t) (ht : RefOk P t z) : OpStep P G o look H (.rptr H.length) (H ++ [.ref z]) :=
  OpStep.made fun ρ a w hi he => by
    obtain ⟨d, i, hd, hi1, hi2, ⟨x, hx, hxo, hxr⟩, hdd⟩ := ht
    refine ⟨.pointer (some ⟨w.heap.size, 0, none⟩), .cells #[x] t (0, 0), ?_, ⟨x, t, rfl, hxr _ _ _⟩, ⟨by simp [shs, Blk.sh], by rw [upd_same]⟩⟩
    have hz : (zeroValue t).run P w = .ok x w := by simp [zeroValue, typeInfo, hi1, hx]
    have hcs : x.cells = #[x] := by cases x <;> simp_all [Value.cells, Value.oneCell']
    rw [execOp.eq_1]
    simp only [ho, Instr.alloc, Sem.run_bind, hz, Result.andThen_ok, newVar, newRow, hcs, run_newObj, Sem.run_pure]
    rfl

theorem step_box {t : TypeId} {x : Operand} {τ : Sh} {v : DV} (ho : o.op = .box t x) (hx : IsD (ev look x) τ v) : OpStep P G o look H (.ptr H.length [] τ) (H ++ [.data τ v]) :=
  OpStep.made fun ρ a w hi he => by
    obtain ⟨hh, h4⟩ := Rv_isD hx (he.ev (x := x) (by simp [ho, Op.operands]))
    refine ⟨.pointer (some ⟨w.heap.size, 0, none⟩), .cells (flat τ v).toArray t (0, 0), ?_, RB_new hh, Rv_new⟩
    rw [execOp.eq_1]
    simp only [ho, h4, Instr.box, Sem.run_bind, Result.andThen_ok, newVar, newRow, enc_cells hh, run_newObj, Sem.run_pure]
    rfl

theorem step_boxref {t : TypeId} {x : Operand} (ho : o.op = .box t x) (hx : (ev look x).oneB = true) : OpStep P G o look H (.rptr H.length) (H ++ [.ref (ev look x)]) :=
  OpStep.made fun ρ a w hi he => by
    have hr := he.ev (x := x) (by simp [ho, Op.operands])
    have hone : (a.eval x).oneCell' = true := oneCell_rv hr hx
    have hcs : (a.eval x).cells = #[a.eval x] := by cases hq : a.eval x <;> simp_all [Value.cells, Value.oneCell']
    refine ⟨.pointer (some ⟨w.heap.size, 0, none⟩), .cells #[a.eval x] t (0, 0), ?_, ⟨_, t, rfl, hr.mono (Ext.push _ _)⟩, ⟨by simp [shs, Blk.sh], by rw [upd_same]⟩⟩
    rw [execOp.eq_1]
    simp only [ho, Instr.box, Sem.run_bind, Result.andThen_ok, newVar, newRow, hcs, run_newObj, Sem.run_pure]
    rfl

theorem step_nilCheck {x : Operand} (ho : o.op = .nilCheck x) (hx : (∃ b p τ, ev look x = .ptr b p τ) ∨ (∃ b, ev look x = .rptr b) ∨ (∃ f c d, ev look x = .fn f c d)) : OpStep P G o look H (ev look x) H :=
  OpStep.value fun ρ a w hi he => by
    have hr := he.ev (x := x) (by simp [ho, Op.operands])
    refine ⟨a.eval x, ?_, hr⟩
    rw [execOp.eq_1]
    rcases hx with ⟨b, p, τ, hx⟩ | ⟨b, hx⟩ | ⟨f, c, d, hx⟩
    · rw [hx] at hr; obtain ⟨_, _, _, _, h⟩ := hr; simp [ho, h]
    · rw [hx] at hr; obtain ⟨_, h⟩ := hr; simp [ho, h]
    · rw [hx] at hr; obtain ⟨_, _, h, _⟩ := hr; simp [ho, h]

theorem step_fieldAddr {t : TypeId} {x : Operand} {f b : Nat} {p : List Nat} {τ s : Sh} (ho : o.op = .fieldAddr t x f) (hx : ev look x = .ptr b p τ) (ht : TyOk P τ t) (hn : ∀ n e, τ ≠ .arr n e)
    (hf : τ.fld f = some s) : OpStep P G o look H (.ptr b (p ++ [f]) s) H :=
  OpStep.value fun ρ a w hi he => by
    have hr := he.ev (x := x) (by simp [ho, Op.operands])
    rw [hx] at hr
    obtain ⟨sh, off, h1, h2, h3⟩ := hr
    obtain ⟨fs, fd, fo, k1, k2, k3, k4, k5, k6⟩ := ht.field hn hf
    refine ⟨.pointer (some ⟨ρ b, off + fo, none⟩), ?_, ⟨sh, off + fo, h1, ?_, rfl⟩⟩
    · rw [execOp.eq_1]
      simp [ho, h3, Instr.fieldAt, run_underlying k1, k2, Instr.sureAddr, fieldPlace, k5.sizeOf w, k6, add_addr, k4]
    · cases sh with
      | data σ => exact at_snoc h2 k3
      | seq e =>
        cases p with
        | nil => simp [BSh.at?] at h2
        | cons i p =>
          simp only [BSh.at?, Option.map_eq_some_iff] at h2
          obtain ⟨⟨q, r⟩, h2, heq⟩ := h2
          cases heq
          have := at_snoc h2 k3
          simp [BSh.at?, this, Nat.add_assoc]
      | win fq e =>
        cases p with
        | nil => simp [BSh.at?] at h2
        | cons i p =>
          simp only [BSh.at?, Option.map_eq_some_iff] at h2
          obtain ⟨⟨q, r⟩, h2, heq⟩ := h2
          cases heq
          have := at_snoc h2 k3
          simp [BSh.at?, this, Nat.add_assoc]
      | ref => simp [BSh.at?] at h2
      | obj => simp [BSh.at?] at h2
end ops
end Ink
/- Arithmetic, conversions, indexing, parts, slices and append: what each does to the abstract state. No conditions. -/
namespace Ink
open Go

def iBin (op : BinOp) (k : IntKind) (x y : Int) : AV :=
  match op with
  | .add => .int k (k.wrap (x + y))
  | .sub => .int k (k.wrap (x - y))
  | .mul => .int k (k.wrap (x * y))
  | .quo => .int k (k.wrap (x.tdiv y))
  | .rem => .int k (x.tmod y)
  | .and => .int k (k.wrap (BitVec.ofInt k.bits x &&& BitVec.ofInt k.bits y).toNat)
  | .or => .int k (k.wrap (BitVec.ofInt k.bits x ||| BitVec.ofInt k.bits y).toNat)
  | .xor => .int k (k.wrap (BitVec.ofInt k.bits x ^^^ BitVec.ofInt k.bits y).toNat)
  | .andNot => .int k (k.wrap (BitVec.ofInt k.bits x &&& ~~~ BitVec.ofInt k.bits y).toNat)
  | .eql => .bool (decide (x = y))
  | .neq => .bool (!decide (x = y))
  | .lss => .bool (decide (x < y))
  | .leq => .bool (decide (x ≤ y))
  | .gtr => .bool (decide (y < x))
  | .geq => .bool (decide (y ≤ x))
  | _ => .junk

def BinOp.isDiv : BinOp → Bool
  | .quo | .rem => true
  | _ => false
def BinOp.isSh : BinOp → Bool
  | .shl | .shr => true
  | _ => false

theorem run_bin {P : Program} {w : World} {op : BinOp} {t : TypeId} {k : IntKind} {x y : Int} (hs : BinOp.isSh op = false) (hd : BinOp.isDiv op = true → y ≠ 0) :
    ∃ v, (binOp op t (.int k x) (.int k y)).run P w = .ok v w ∧ ∀ ρ S w', Rv ρ S w' (iBin op k x y) v := by
  cases op <;> first | (cases hs; done) | skip
  all_goals simp only [binOp, ne_eq, not_true_eq_false, if_false, Op.intArith, Op.intDiv, Op.intBits, Op.intCmp]
  case quo => rw [if_neg (hd rfl)]; exact ⟨_, rfl, fun _ _ _ => rfl⟩
  case rem => rw [if_neg (hd rfl)]; exact ⟨_, rfl, fun _ _ _ => rfl⟩
  all_goals exact ⟨_, rfl, fun _ _ _ => rfl⟩

section ops
variable {P : Program} {G : Ent} {o : Oper} {look : Tmp → AV} {H : Heap}

theorem run_eqGuard_int (P : Program) (w : World) (op : BinOp) (t : TypeId) (x y : Operand) (k k' : IntKind) (a b : Int) : (eqGuard op t x y (.int k a) (.int k' b)).run P w = .ok () w := by
  unfold eqGuard
  split <;> rfl

theorem step_bin {op : BinOp} {t u : TypeId} {x y : Operand} {k : IntKind} {a b : Int} (ho : o.op = .binOp op t x y u) (hx : ev look x = .int k a) (hy : ev look y = .int k b)
    (hs : BinOp.isSh op = false) (hd : BinOp.isDiv op = true → b ≠ 0) : OpStep P G o look H (iBin op k a b) H :=
  OpStep.value fun ρ A w hi he => by
    have hrx := he.ev (x := x) (by simp [ho, Op.operands])
    have hry := he.ev (x := y) (by simp [ho, Op.operands])
    rw [hx] at hrx; rw [hy] at hry
    simp only [Rv] at hrx hry
    obtain ⟨v, h1, h2⟩ := run_bin (P := P) (w := w) (t := t) (k := k) (x := a) (y := b) hs hd
    refine ⟨v, ?_, h2 _ _ _⟩
    rw [execOp.eq_1]
    simp only [ho, hrx, hry, Sem.run_bind, run_eqGuard_int, Result.andThen_ok, h1]
    rfl

def iSh (op : BinOp) (k : IntKind) (x y : Int) : AV :=
  match op with
  | .shl => .int k (k.wrap (x * 2 ^ (min y.toNat k.bits)))
  | .shr => .int k (x.fdiv (2 ^ (min y.toNat k.bits)))
  | _ => .junk

theorem step_shift {op : BinOp} {t u : TypeId} {x y : Operand} {k k' : IntKind} {a b : Int} (ho : o.op = .binOp op t x y u) (hx : ev look x = .int k a) (hy : ev look y = .int k' b)
    (hs : BinOp.isSh op = true) (hd : 0 ≤ b) : OpStep P G o look H (iSh op k a b) H :=
  OpStep.value fun ρ A w hi he => by
    have hrx := he.ev (x := x) (by simp [ho, Op.operands])
    have hry := he.ev (x := y) (by simp [ho, Op.operands])
    rw [hx] at hrx; rw [hy] at hry
    simp only [Rv] at hrx hry
    have hb : ¬ b < 0 := by omega
    cases op <;> first | (cases hs; done) | skip
    · refine ⟨.int k (k.wrap (a * 2 ^ (min b.toNat k.bits))), ?_, rfl⟩
      rw [execOp.eq_1]
      simp only [ho, hrx, hry, Sem.run_bind, run_eqGuard_int, Result.andThen_ok, binOp, Op.shift, hb, if_false]
      rfl
    · refine ⟨.int k (a.fdiv (2 ^ (min b.toNat k.bits))), ?_, rfl⟩
      rw [execOp.eq_1]
      simp only [ho, hrx, hry, Sem.run_bind, run_eqGuard_int, Result.andThen_ok, binOp, Op.shift, hb, if_false]
      rfl

theorem step_boolcmp {op : BinOp} {t u : TypeId} {x y : Operand} {a b : Bool} (ho : o.op = .binOp op t x y u) (hx : ev look x = .bool a) (hy : ev look y = .bool b) (ht : TyOk P .bool t)
    (hop : op = .eql ∨ op = .neq) : OpStep P G o look H (.bool (if op = .eql then a == b else a != b)) H :=
  OpStep.value fun ρ A w hi he => by
    have hrx := he.ev (x := x) (by simp [ho, Op.operands])
    have hry := he.ev (x := y) (by simp [ho, Op.operands])
    rw [hx] at hrx; rw [hy] at hry
    simp only [Rv] at hrx hry
    simp only [TyOk] at ht
    rcases hop with rfl | rfl
    · refine ⟨.bool (a == b), ?_, rfl⟩
      rw [execOp.eq_1]
      have hg : (eqGuard .eql t x y (.bool a) (.bool b)).run P w = .ok () w := rfl
      have hq : (Op.equal t (.bool a) (.bool b)).run P w = .ok (a == b) w := run_equalIn_bool' w 9999 t a b ht.1
      simp only [ho, hrx, hry, Sem.run_bind, hg, Result.andThen_ok, binOp, hq]
      rfl
    · refine ⟨.bool (a != b), ?_, rfl⟩
      rw [execOp.eq_1]
      have hg : (eqGuard .neq t x y (.bool a) (.bool b)).run P w = .ok () w := rfl
      have hq : (Op.equal t (.bool a) (.bool b)).run P w = .ok (a == b) w := run_equalIn_bool' w 9999 t a b ht.1
      simp only [ho, hrx, hry, Sem.run_bind, hg, Result.andThen_ok, binOp, hq]
      rfl

theorem step_not {t : TypeId} {x : Operand} {a : Bool} (ho : o.op = .unOp .not t x) (hx : ev look x = .bool a) : OpStep P G o look H (.bool (!a)) H :=
  OpStep.value fun ρ A w hi he => by
    have hrx := he.ev (x := x) (by simp [ho, Op.operands])
    rw [hx] at hrx
    simp only [Rv] at hrx
    refine ⟨.bool (!a), ?_, rfl⟩
    rw [execOp.eq_1]
    simp only [ho, hrx]
    rfl

theorem step_neg {t : TypeId} {x : Operand} {k : IntKind} {a : Int} (ho : o.op = .unOp .neg t x) (hx : ev look x = .int k a) : OpStep P G o look H (.int k (k.wrap (0 - a))) H :=
  OpStep.value fun ρ A w hi he => by
    have hrx := he.ev (x := x) (by simp [ho, Op.operands])
    rw [hx] at hrx
    simp only [Rv] at hrx
    refine ⟨.int k (k.wrap (0 - a)), ?_, rfl⟩
    rw [execOp.eq_1]
    simp only [ho, hrx]
    rfl

theorem step_convert {s t : TypeId} {x : Operand} {k ks j : IntKind} {a : Int} (ho : o.op = .convert s t x) (hx : ev look x = .int j a) (hs : TyOk P (.int ks) s) (ht : TyOk P (.int k) t) :
    OpStep P G o look H (.int k (k.wrap a)) H :=
  OpStep.value fun ρ A w hi he => by
    have hrx := he.ev (x := x) (by simp [ho, Op.operands])
    rw [hx] at hrx
    simp only [Rv] at hrx
    simp only [TyOk] at hs ht
    refine ⟨.int k (k.wrap a), ?_, rfl⟩
    rw [execOp.eq_1]
    simp only [ho, hrx, convert, Sem.run_bind, run_underlying hs.1, run_underlying ht.1, Result.andThen_ok]
    rfl

theorem Rvs_map {ρ S w} {a : Act} : ∀ {l : List Operand}, (∀ x ∈ l, Rv ρ S w (ev look x) (a.eval x)) → Rvs ρ S w (l.map (ev look)) (l.map a.eval)
  | [], _ => trivial
  | x :: l, h => ⟨h x (by simp), Rvs_map fun y hy => h y (by simp [hy])⟩

theorem step_makeFunc {f : FuncId} {first capt : Array Operand} (ho : o.op = .makeFunc (.func f) first capt) :
    OpStep P G o look H (.fn f (first.toList.map (ev look)) (capt.toList.map (ev look))) H :=
  OpStep.value fun ρ A w hi he => by
    refine ⟨.func (.func f) (first.map A.eval) (capt.map A.eval), ?_, first.toList.map A.eval, capt.toList.map A.eval, ?_, Rvs_map fun x hx => he.ev ?_, Rvs_map fun x hx => he.ev ?_⟩
    · rw [execOp.eq_1]; simp only [ho]; rfl
    · congr 1 <;> (apply Array.ext'; simp)
    · simp [ho, Op.operands]; left; simpa using hx
    · simp [ho, Op.operands]; right; simpa using hx

theorem step_extract {x : Operand} {i : Nat} {l : List AV} {v : AV} (ho : o.op = .extract x i) (hx : ev look x = .tup l) (hv : l[i]? = some v) : OpStep P G o look H v H :=
  OpStep.value fun ρ A w hi he => by
    have hrx := he.ev (x := x) (by simp [ho, Op.operands])
    rw [hx] at hrx
    obtain ⟨vs, h1, h2⟩ := hrx
    have : ∀ {l : List AV} {vs : List Value} {i : Nat}, Rvs ρ (shs H) w l vs → l[i]? = some v → ∃ u, vs[i]? = some u ∧ Rv ρ (shs H) w v u := by
      intro l
      induction l with
      | nil => intro vs i _ h; simp at h
      | cons a l ih =>
        intro vs i h hv
        cases vs with
        | nil => exact h.elim
        | cons u vs =>
          cases i with
          | zero => simp at hv; subst hv; exact ⟨u, by simp, h.1⟩
          | succ i =>
            obtain ⟨u', h1, h2⟩ := ih (vs := vs) (i := i) h.2 (by simpa using hv)
            exact ⟨u', by simpa using h1, h2⟩
    obtain ⟨u, h3, h4⟩ := this h2 hv
    refine ⟨u, ?_, h4⟩
    rw [execOp.eq_1]
    simp [ho, h1, Instr.extract, h3]

theorem flat_part {τ s : Sh} {v : DV} {p : List Nat} {off : Nat} (h : Has τ v) (ha : τ.at? p = some (off, s)) :
    (flat τ v).toArray.extract off (off + s.size) = (flat s (v.get p)).toArray ∧ (s.agg = false → ∃ x, flat s (v.get p) = [x] ∧ (flat τ v).toArray[off]? = some x) := by
  obtain ⟨h1, ⟨a, b, h2, rfl⟩, h3⟩ := get_flat h ha
  have hl := flat_length h1
  constructor
  · rw [h2, ← hl]
    apply Array.ext'
    simp
  · intro hs
    obtain ⟨x, hx⟩ := flat_one h1 hs
    refine ⟨x, hx, ?_⟩
    rw [h2, hx]
    simp

theorem run_part {w : World} {τ s : Sh} {v : DV} {p : List Nat} {off : Nat} {t : TypeId} (h : Has τ v) (ha : τ.at? p = some (off, s)) (ht : TyOk P s t) :
    (part t (flat τ v).toArray off).run P w = .ok (enc s (v.get p)) w := by
  obtain ⟨h1, h2⟩ := flat_part h ha
  unfold part
  rw [Sem.run_bind, ht.isAgg w]
  simp only [Result.andThen_ok]
  cases hs : s.agg with
  | true =>
    simp only [if_true, Sem.run_bind, ht.sizeOf w, Result.andThen_ok, h1, enc, hs]
    rfl
  | false =>
    obtain ⟨x, hx, hx2⟩ := h2 hs
    simp only [Bool.false_eq_true, if_false, hx2, enc, hs, hx]
    rfl

theorem step_field {t : TypeId} {x : Operand} {f : Nat} {τ s : Sh} {v : DV} (ho : o.op = .field t x f) (hx : ev look x = .agg τ v) (ht : TyOk P τ t) (hn : ∀ n e, τ ≠ .arr n e) (hf : τ.fld f = some s) :
    OpStep P G o look H (ofD s (v.get [f])) H :=
  OpStep.value fun ρ a w hi he => by
    have hr := he.ev (x := x) (by simp [ho, Op.operands])
    rw [hx] at hr
    obtain ⟨_, h2, h3⟩ := hr
    obtain ⟨fs, fd, fo, k1, k2, k3, k4, k5, k6⟩ := ht.field hn hf
    refine ⟨enc s (v.get [f]), ?_, Rv_ofD (get_flat h2 k3).1⟩
    rw [execOp.eq_1]
    have := run_part (P := P) (w := w) h2 k3 k5
    simp [ho, h3, Instr.field, run_underlying k1, k2, asAgg, k4, this]

theorem step_index {t : TypeId} {x y : Operand} {n : Nat} {e : Sh} {v : DV} {k : IntKind} {i : Int} (ho : o.op = .index t x y) (hx : ev look x = .agg (.arr n e) v) (hy : ev look y = .int k i) (ht : TyOk P (.arr n e) t)
    (h0 : 0 ≤ i) (h1 : i < n) : OpStep P G o look H (ofD e (v.get [i.toNat])) H :=
  OpStep.value fun ρ a w hi he => by
    have hr := he.ev (x := x) (by simp [ho, Op.operands])
    have hry := he.ev (x := y) (by simp [ho, Op.operands])
    rw [hx] at hr; rw [hy] at hry
    obtain ⟨_, h2, h3⟩ := hr
    simp only [Rv] at hry
    simp only [TyOk] at ht
    obtain ⟨⟨et, hu, he'⟩, _⟩ := ht
    have ha : (Sh.arr n e).at? [i.toNat] = some (i.toNat * e.size, e) := by
      simp only [Sh.at?]
      rw [if_pos (by omega)]
      simp
    refine ⟨enc e (v.get [i.toNat]), ?_, Rv_ofD (get_flat h2 ha).1⟩
    rw [execOp.eq_1]
    have := run_part (P := P) (w := w) h2 ha he'
    simp [ho, h3, hry, Instr.index, asIntOf, run_underlying hu, h0, h1, he'.sizeOf w, this]

theorem step_indexStr {t : TypeId} {x y : Operand} {s : ByteArray} {k : IntKind} {i : Int} {c : UInt8} (ho : o.op = .index t x y) (hx : ev look x = .str s) (hy : ev look y = .int k i) (ht : TyOk P .str t)
    (h0 : 0 ≤ i) (hc : s[i.toNat]? = some c) : OpStep P G o look H (.int .u8 c.toNat) H :=
  OpStep.value fun ρ a w hi he => by
    have hr := he.ev (x := x) (by simp [ho, Op.operands])
    have hry := he.ev (x := y) (by simp [ho, Op.operands])
    rw [hx] at hr; rw [hy] at hry
    simp only [Rv] at hry hr
    simp only [TyOk] at ht
    refine ⟨.int .u8 c.toNat, ?_, rfl⟩
    rw [execOp.eq_1]
    simp [ho, hr, hry, Instr.index, asIntOf, run_underlying ht.1, h0, hc]

theorem step_indexAddr {t : TypeId} {x y : Operand} {n b : Nat} {p : List Nat} {e : Sh} {k : IntKind} {i : Int} (ho : o.op = .indexAddr t x y) (hx : ev look x = .ptr b p (.arr n e)) (hy : ev look y = .int k i) (ht : TyOk P (.arr n e) t)
    (h0 : 0 ≤ i) (h1 : i < n) : OpStep P G o look H (.ptr b (p ++ [i.toNat]) e) H :=
  OpStep.value fun ρ a w hi he => by
    have hr := he.ev (x := x) (by simp [ho, Op.operands])
    have hry := he.ev (x := y) (by simp [ho, Op.operands])
    rw [hx] at hr; rw [hy] at hry
    obtain ⟨sh, off, k1, k2, k3⟩ := hr
    simp only [Rv] at hry
    simp only [TyOk] at ht
    obtain ⟨⟨et, hu, he'⟩, _⟩ := ht
    have ha : (Sh.arr n e).at? [i.toNat] = some (i.toNat * e.size, e) := by
      simp only [Sh.at?]
      rw [if_pos (by omega)]
      simp
    refine ⟨.pointer (some ⟨ρ b, off + i.toNat * e.size, none⟩), ?_, ⟨sh, _, k1, ?_, rfl⟩⟩
    · rw [execOp.eq_1]
      simp [ho, k3, hry, Instr.indexAt, asIntOf, run_underlying hu, Instr.sureAddr, h0, h1, he'.sizeOf w, add_addr]
    · cases sh with
      | data σ => exact at_snoc k2 ha
      | seq e' =>
        cases p with
        | nil => simp [BSh.at?] at k2
        | cons j p =>
          simp only [BSh.at?, Option.map_eq_some_iff] at k2
          obtain ⟨⟨q, r⟩, k2, heq⟩ := k2
          cases heq
          have := at_snoc k2 ha
          simp [BSh.at?, this, Nat.add_assoc]
      | win f e' =>
        cases p with
        | nil => simp [BSh.at?] at k2
        | cons j p =>
          simp only [BSh.at?, Option.map_eq_some_iff] at k2
          obtain ⟨⟨q, r⟩, k2, heq⟩ := k2
          cases heq
          have := at_snoc k2 ha
          simp [BSh.at?, this, Nat.add_assoc]
      | ref => simp [BSh.at?] at k2
      | obj => simp [BSh.at?] at k2

/-- The element type of a slice's type. -/
def SlOk (P : Program) (t : TypeId) (e : Sh) : Prop := ∃ et, P.underlying t = some (.slice et) ∧ TyOk P e et ∧ e.size ≠ 0

theorem step_indexSl {t : TypeId} {x y : Operand} {b lo len : Nat} {e : Sh} {k : IntKind} {i : Int} (ho : o.op = .indexAddr t x y) (hx : ev look x = .slc b lo len) (hy : ev look y = .int k i) (ht : SlOk P t e)
    (hs : (shs H)[b]? = some (.seq e)) (h0 : 0 ≤ i) (h1 : i < len) : OpStep P G o look H (.ptr b [lo + i.toNat] e) H :=
  OpStep.value fun ρ a w hi he => by
    have hr := he.ev (x := x) (by simp [ho, Op.operands])
    have hry := he.ev (x := y) (by simp [ho, Op.operands])
    rw [hx] at hr; rw [hy] at hry
    obtain ⟨e', k1, k2⟩ := hr
    rw [hs] at k1
    cases k1
    simp only [Rv] at hry
    obtain ⟨et, hu, he', hne⟩ := ht
    have hlen : 0 < len := by omega
    rcases k2 with ⟨cap, k3, k4, k5⟩ | ⟨k3, _⟩
    · refine ⟨.pointer (some ⟨ρ b, lo * e.size + i.toNat * e.size, none⟩), ?_, ⟨_, (lo + i.toNat) * e.size + 0, hs, ?_, ?_⟩⟩
      · rw [execOp.eq_1]
        simp [ho, k3, hry, Instr.indexAt, asIntOf, run_underlying hu, h0, h1, he'.sizeOf w, add_addr]
      · cases e <;> simp [BSh.at?, Sh.at?]
      · rw [Nat.add_mul, Nat.add_zero]
    · omega
/-- A place in a slice that was handed in. -/
theorem step_indexW {t : TypeId} {x y : Operand} {b len : Nat} {f : Nat} {e : Sh} {k : IntKind} {i : Int} (ho : o.op = .indexAddr t x y) (hx : ev look x = .wsl b len) (hy : ev look y = .int k i) (ht : SlOk P t e)
    (hs : (shs H)[b]? = some (.win f e)) (h0 : 0 ≤ i) (h1 : i < len) : OpStep P G o look H (.ptr b [i.toNat] e) H :=
  OpStep.value fun ρ a w hi he => by
    have hr := he.ev (x := x) (by simp [ho, Op.operands])
    have hry := he.ev (x := y) (by simp [ho, Op.operands])
    rw [hx] at hr; rw [hy] at hry
    obtain ⟨f', e', k1, k2⟩ := hr
    rw [hs] at k1
    cases k1
    simp only [Rv] at hry
    obtain ⟨et, hu, he', hne⟩ := ht
    rcases k2 with ⟨cap, k3⟩ | ⟨k3, _⟩
    · refine ⟨.pointer (some ⟨ρ b, f + i.toNat * e.size, none⟩), ?_, ⟨_, f + (i.toNat * e.size + 0), hs, ?_, ?_⟩⟩
      · rw [execOp.eq_1]
        simp [ho, k3, hry, Instr.indexAt, asIntOf, run_underlying hu, h0, h1, he'.sizeOf w, add_addr]
      · cases e <;> simp [BSh.at?, Sh.at?]
      · rw [Nat.add_zero]
    · omega
theorem run_sliceNilIn {P : Program} (w : World) (d : Nat) (t e : TypeId) (a : Addr) (l c : Nat) (h : P.underlying t = some (.slice e)) : (Op.equalIn (d + 1) t (.slice (some a) l c) (.slice none 0 0)).run P w = .ok false w := by
  simp [Op.equalIn, run_underlying h]
theorem run_sliceNil {P : Program} (w : World) (t e : TypeId) (a : Addr) (l c : Nat) (h : P.underlying t = some (.slice e)) : (Op.equal t (.slice (some a) l c) (.slice none 0 0)).run P w = .ok false w := run_sliceNilIn w 9999 t e a l c h
theorem step_sliceNil {op : BinOp} {t u : TypeId} {x y : Operand} {b lo len : Nat} {e : Sh} (ho : o.op = .binOp op t x y u) (hx : ev look x = .slc b lo len) (hy : ev look y = .nils) (ht : SlOk P t e)
    (hop : op = .eql ∨ op = .neq) : OpStep P G o look H (.bool (if op = .eql then false else true)) H :=
  OpStep.value fun ρ A w hi he => by
    have hrx := he.ev (x := x) (by simp [ho, Op.operands])
    have hry := he.ev (x := y) (by simp [ho, Op.operands])
    rw [hx] at hrx; rw [hy] at hry
    obtain ⟨et, hu, _⟩ := ht
    simp only [Rv] at hrx hry
    obtain ⟨e', _, hrx⟩ := hrx
    obtain ⟨a, l, c, hrx⟩ : ∃ a l c, A.eval x = .slice (some a) l c := by
      rcases hrx with ⟨cap, h, _⟩ | ⟨_, a, h⟩
      · exact ⟨_, _, _, h⟩
      · exact ⟨_, _, _, h⟩
    rcases hop with rfl | rfl
    · refine ⟨.bool false, ?_, rfl⟩
      rw [execOp.eq_1]
      have hg : (eqGuard .eql t x y (.slice (some a) l c) (.slice none 0 0)).run P w = .ok () w := rfl
      have hq := run_sliceNil (P := P) w t et a l c hu
      simp only [ho, hrx, hry, Sem.run_bind, hg, Result.andThen_ok, binOp, hq]
      rfl
    · refine ⟨.bool true, ?_, rfl⟩
      rw [execOp.eq_1]
      have hg : (eqGuard .neq t x y (.slice (some a) l c) (.slice none 0 0)).run P w = .ok () w := rfl
      have hq := run_sliceNil (P := P) w t et a l c hu
      simp only [ho, hrx, hry, Sem.run_bind, hg, Result.andThen_ok, binOp, hq]
      rfl
end ops
end Ink
