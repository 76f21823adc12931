/- The data side of an abstract evaluator over the model: shapes of pointer-free data, data trees, their cells, reading and writing at a path. No conditions. -/
import Derived.Calls
set_option linter.unusedVariables false
set_option linter.unusedSimpArgs false
namespace Ink
open Go

inductive Sh where
  | int (k : IntKind)
  | bool
  | str
  | arr (n : Nat) (e : Sh)
  | unit
  | cons (a b : Sh)

def Sh.size : Sh → Nat
  | .int _ => 1
  | .bool => 1
  | .str => 1
  | .arr n e => n * e.size
  | .unit => 0
  | .cons a b => a.size + b.size

def Sh.agg : Sh → Bool
  | .int _ => false
  | .bool => false
  | .str => false
  | _ => true

inductive DV where
  | int (k : IntKind) (n : Int)
  | bool (b : Bool)
  | str (s : ByteArray)
  | arr (f : Nat → DV)
  | unit
  | cons (a b : DV)

def Has : Sh → DV → Prop
  | .int k, .int j _ => j = k
  | .bool, .bool _ => True
  | .str, .str _ => True
  | .arr n e, .arr f => ∀ i, i < n → Has e (f i)
  | .unit, .unit => True
  | .cons a b, .cons x y => Has a x ∧ Has b y
  | _, _ => False

def flat : Sh → DV → List Value
  | .int _, .int k n => [.int k n]
  | .bool, .bool b => [.bool b]
  | .str, .str s => [.string s]
  | .arr n e, .arr f => (List.range n).flatMap fun i => flat e (f i)
  | .cons a b, .cons x y => flat a x ++ flat b y
  | _, _ => []

theorem flatMap_range_length {α : Type} (n m : Nat) (g : Nat → List α) (h : ∀ i, i < n → (g i).length = m) :
    ((List.range n).flatMap g).length = n * m := by
  induction n with
  | zero => simp
  | succ n ih =>
    rw [List.range_succ, List.flatMap_append, List.length_append, ih (fun i hi => h i (by omega))]
    simp [h n (by omega), Nat.succ_mul]

theorem flat_length {τ : Sh} : ∀ {v : DV}, Has τ v → (flat τ v).length = τ.size := by
  induction τ with
  | int k => intro v h; cases v <;> simp [Has, flat, Sh.size] at *
  | bool => intro v h; cases v <;> simp [Has, flat, Sh.size] at *
  | str => intro v h; cases v <;> simp [Has, flat, Sh.size] at *
  | unit => intro v h; cases v <;> simp [Has, flat, Sh.size] at *
  | arr n e ih =>
    intro v h
    cases v <;> simp only [Has] at h
    simp only [flat, Sh.size]
    exact flatMap_range_length _ _ _ fun i hi => ih (h i hi)
  | cons a b iha ihb =>
    intro v h
    cases v <;> simp only [Has] at h
    simp only [flat, Sh.size, List.length_append, iha h.1, ihb h.2]

/-- Where the part at a path begins, and its shape. -/
def Sh.at? : Sh → List Nat → Option (Nat × Sh)
  | τ, [] => some (0, τ)
  | .arr n e, i :: p => if i < n then (e.at? p).map fun x => (i * e.size + x.1, x.2) else none
  | .cons a _, 0 :: p => a.at? p
  | .cons a b, (k + 1) :: p => (b.at? (k :: p)).map fun x => (a.size + x.1, x.2)
  | _, _ => none

def DV.get : DV → List Nat → DV
  | v, [] => v
  | .arr f, i :: p => (f i).get p
  | .cons a _, 0 :: p => a.get p
  | .cons _ b, (k + 1) :: p => b.get (k :: p)
  | _, _ => .unit

def DV.set : DV → List Nat → DV → DV
  | _, [], x => x
  | .arr f, i :: p, x => .arr fun j => if j = i then (f i).set p x else f j
  | .cons a b, 0 :: p, x => .cons (a.set p x) b
  | .cons a b, (k + 1) :: p, x => .cons a (b.set (k :: p) x)
  | v, _, _ => v

theorem flatMap_range_split {α : Type} (n i m : Nat) (g : Nat → List α) (h : ∀ i, i < n → (g i).length = m) (hi : i < n) :
    (List.range n).flatMap g = (List.range i).flatMap g ++ (g i ++ (List.range (n - (i + 1))).flatMap fun j => g (i + 1 + j)) := by
  have : n = i + (1 + (n - (i + 1))) := by omega
  conv => lhs; rw [this, List.range_add, List.flatMap_append]
  congr 1
  rw [List.range_add]
  simp [List.flatMap_map, List.map_append, List.flatMap_append, Nat.add_assoc, Nat.add_comm, Nat.add_left_comm]

/-- 'xs' lies in 'l' from 'o' on. -/
def LiesAt {α : Type} (l : List α) (o : Nat) (xs : List α) : Prop := ∃ a b, l = a ++ xs ++ b ∧ a.length = o

theorem LiesAt.pre {α : Type} {l a xs : List α} {o : Nat} (h : LiesAt l o xs) : LiesAt (a ++ l) (a.length + o) xs := by
  obtain ⟨c, d, rfl, rfl⟩ := h
  exact ⟨a ++ c, d, by simp, by simp⟩
theorem LiesAt.post {α : Type} {l b xs : List α} {o : Nat} (h : LiesAt l o xs) : LiesAt (l ++ b) o xs := by
  obtain ⟨c, d, rfl, rfl⟩ := h
  exact ⟨c, d ++ b, by simp, rfl⟩
theorem LiesAt.self {α : Type} (l : List α) : LiesAt l 0 l := ⟨[], [], by simp, rfl⟩

theorem get_flat : ∀ {σ : Sh} {p : List Nat} {v : DV} {o : Nat} {τ : Sh}, Has σ v → σ.at? p = some (o, τ) →
    Has τ (v.get p) ∧ LiesAt (flat σ v) o (flat τ (v.get p)) ∧ o + τ.size ≤ σ.size := by
  intro σ
  induction σ with
  | int k => intro p v o τ h ha; cases p <;> simp [Sh.at?] at ha; obtain ⟨rfl, rfl⟩ := ha; cases v <;> exact ⟨h, LiesAt.self _, by simp⟩
  | bool => intro p v o τ h ha; cases p <;> simp [Sh.at?] at ha; obtain ⟨rfl, rfl⟩ := ha; cases v <;> exact ⟨h, LiesAt.self _, by simp⟩
  | str => intro p v o τ h ha; cases p <;> simp [Sh.at?] at ha; obtain ⟨rfl, rfl⟩ := ha; cases v <;> exact ⟨h, LiesAt.self _, by simp⟩
  | unit => intro p v o τ h ha; cases p <;> simp [Sh.at?] at ha; obtain ⟨rfl, rfl⟩ := ha; cases v <;> exact ⟨h, LiesAt.self _, by simp⟩
  | arr n e ih =>
    intro p v o τ h ha
    cases p with
    | nil => simp [Sh.at?] at ha; obtain ⟨rfl, rfl⟩ := ha; cases v <;> exact ⟨h, LiesAt.self _, by simp⟩
    | cons i p =>
      cases v <;> simp only [Has] at h
      rename_i f
      simp only [Sh.at?] at ha
      split at ha
      · rename_i hi
        simp only [Option.map_eq_some_iff] at ha
        obtain ⟨⟨o', τ'⟩, hat, heq⟩ := ha
        cases heq
        obtain ⟨h1, h2, h3⟩ := ih (h i hi) hat
        have hlen : ∀ j, j < n → (flat e (f j)).length = e.size := fun j hj => flat_length (h j hj)
        refine ⟨h1, ?_, ?_⟩
        · simp only [flat, DV.get]
          rw [flatMap_range_split n i e.size _ hlen hi]
          have hl := flatMap_range_length i e.size (fun j => flat e (f j)) fun j hj => hlen j (by omega)
          have := (h2.post (b := (List.range (n - (i + 1))).flatMap fun j => flat e (f (i + 1 + j)))).pre (a := (List.range i).flatMap fun j => flat e (f j))
          rw [hl] at this
          exact this
        · simp only [Sh.size]
          have : (i + 1) * e.size ≤ n * e.size := Nat.mul_le_mul_right _ (by omega)
          rw [Nat.succ_mul] at this
          omega
      · cases ha
  | cons a b iha ihb =>
    intro p v o τ h ha
    cases p with
    | nil => simp [Sh.at?] at ha; obtain ⟨rfl, rfl⟩ := ha; cases v <;> exact ⟨h, LiesAt.self _, by simp⟩
    | cons i p =>
      cases v <;> simp only [Has] at h
      rename_i x y
      cases i with
      | zero =>
        simp only [Sh.at?] at ha
        obtain ⟨h1, h2, h3⟩ := iha h.1 ha
        exact ⟨h1, by simpa only [flat, DV.get] using h2.post, by simp only [Sh.size]; omega⟩
      | succ k =>
        simp only [Sh.at?, Option.map_eq_some_iff] at ha
        obtain ⟨⟨o', τ'⟩, hat, heq⟩ := ha
        cases heq
        obtain ⟨h1, h2, h3⟩ := ihb h.2 hat
        refine ⟨h1, ?_, by simp only [Sh.size] at *; omega⟩
        have := h2.pre (a := flat a x)
        rw [flat_length h.1] at this
        simpa only [flat, DV.get] using this

/-- What comes of 'l' if 'xs' is laid into it from 'o' on. -/
def lay {α : Type} (l : List α) (o : Nat) (xs : List α) : List α := l.take o ++ xs ++ l.drop (o + xs.length)

theorem lay_pre {α : Type} {l a xs : List α} {o : Nat} : lay (a ++ l) (a.length + o) xs = a ++ lay l o xs := by
  unfold lay
  rw [List.take_append, List.drop_append]
  have h1 : List.take (a.length + o) a = a := List.take_of_length_le (by omega)
  have h2 : List.drop (a.length + o + xs.length) a = [] := List.drop_of_length_le (by omega)
  rw [h1, h2]
  have h3 : a.length + o - a.length = o := by omega
  have h4 : a.length + o + xs.length - a.length = o + xs.length := by omega
  rw [h3, h4]
  simp
theorem lay_post {α : Type} {l b xs : List α} {o : Nat} (h : o + xs.length ≤ l.length) : lay (l ++ b) o xs = lay l o xs ++ b := by
  unfold lay
  rw [List.take_append_of_le_length (by omega), List.drop_append_of_le_length h]
  simp
theorem lay_self {α : Type} {l xs : List α} (h : xs.length = l.length) : lay l 0 xs = xs := by
  unfold lay; simp [h]

theorem set_flat : ∀ {σ : Sh} {p : List Nat} {v x : DV} {o : Nat} {τ : Sh}, Has σ v → σ.at? p = some (o, τ) → Has τ x →
    Has σ (v.set p x) ∧ flat σ (v.set p x) = lay (flat σ v) o (flat τ x) := by
  intro σ
  induction σ with
  | int k => intro p v x o τ h ha hx; cases p <;> simp [Sh.at?] at ha; obtain ⟨rfl, rfl⟩ := ha; exact ⟨by simpa [DV.set] using hx, by rw [lay_self (by rw [flat_length h, flat_length hx])]; simp [DV.set]⟩
  | bool => intro p v x o τ h ha hx; cases p <;> simp [Sh.at?] at ha; obtain ⟨rfl, rfl⟩ := ha; exact ⟨by simpa [DV.set] using hx, by rw [lay_self (by rw [flat_length h, flat_length hx])]; simp [DV.set]⟩
  | str => intro p v x o τ h ha hx; cases p <;> simp [Sh.at?] at ha; obtain ⟨rfl, rfl⟩ := ha; exact ⟨by simpa [DV.set] using hx, by rw [lay_self (by rw [flat_length h, flat_length hx])]; simp [DV.set]⟩
  | unit => intro p v x o τ h ha hx; cases p <;> simp [Sh.at?] at ha; obtain ⟨rfl, rfl⟩ := ha; exact ⟨by simpa [DV.set] using hx, by rw [lay_self (by rw [flat_length h, flat_length hx])]; simp [DV.set]⟩
  | arr n e ih =>
    intro p v x o τ h ha hx
    cases p with
    | nil => simp [Sh.at?] at ha; obtain ⟨rfl, rfl⟩ := ha; exact ⟨by simpa [DV.set] using hx, by rw [lay_self (by rw [flat_length h, flat_length hx])]; simp [DV.set]⟩
    | cons i p =>
      have hv := h
      cases v <;> simp only [Has] at h
      rename_i f
      simp only [Sh.at?] at ha
      split at ha
      · rename_i hi
        simp only [Option.map_eq_some_iff] at ha
        obtain ⟨⟨o', τ'⟩, hat, heq⟩ := ha
        cases heq
        obtain ⟨h1, h2⟩ := ih (h i hi) hat hx
        have hg := (get_flat (h i hi) hat).2.2
        have hlen : ∀ j, j < n → (flat e (f j)).length = e.size := fun j hj => flat_length (h j hj)
        have hset : Has (.arr n e) ((DV.arr f).set (i :: p) x) := by
          simp only [DV.set, Has]
          intro j hj
          split
          · exact h1
          · exact h j hj
        refine ⟨hset, ?_⟩
        simp only [DV.set, Has] at hset
        have hlen' : ∀ j, j < n → (flat e (if j = i then (f i).set p x else f j)).length = e.size := fun j hj => flat_length (hset j hj)
        simp only [flat, DV.set]
        rw [flatMap_range_split n i e.size _ hlen' hi, flatMap_range_split n i e.size _ hlen hi]
        have e1 : ((List.range i).flatMap fun j => flat e (if j = i then (f i).set p x else f j)) = (List.range i).flatMap fun j => flat e (f j) := by
          simp only [List.flatMap_def]
          congr 1
          apply List.map_congr_left
          intro j hj
          have := List.mem_range.1 hj
          rw [if_neg (by omega)]
        have e2 : ((List.range (n - (i + 1))).flatMap fun j => flat e (if i + 1 + j = i then (f i).set p x else f (i + 1 + j))) = (List.range (n - (i + 1))).flatMap fun j => flat e (f (i + 1 + j)) := by
          simp only [List.flatMap_def]
          congr 1
          apply List.map_congr_left
          intro j hj
          rw [if_neg (by omega)]
        have hl := flatMap_range_length i e.size (fun j => flat e (f j)) fun j hj => hlen j (by omega)
        rw [e1, e2, if_pos rfl, h2]
        have := lay_pre (a := (List.range i).flatMap fun j => flat e (f j)) (l := flat e (f i) ++ (List.range (n - (i + 1))).flatMap fun j => flat e (f (i + 1 + j))) (o := o') (xs := flat τ' x)
        rw [hl] at this
        rw [this, lay_post]
        rw [flat_length hx, flat_length (h i hi)]
        exact hg
      · cases ha
  | cons a b iha ihb =>
    intro p v x o τ h ha hx
    cases p with
    | nil => simp [Sh.at?] at ha; obtain ⟨rfl, rfl⟩ := ha; exact ⟨by simpa [DV.set] using hx, by rw [lay_self (by rw [flat_length h, flat_length hx])]; simp [DV.set]⟩
    | cons i p =>
      cases v <;> simp only [Has] at h
      rename_i y z
      cases i with
      | zero =>
        simp only [Sh.at?] at ha
        obtain ⟨h1, h2⟩ := iha h.1 ha hx
        have hg := (get_flat h.1 ha).2.2
        refine ⟨⟨h1, h.2⟩, ?_⟩
        simp only [flat, DV.set, h2]
        rw [lay_post]
        rw [flat_length hx, flat_length h.1]; exact hg
      | succ k =>
        simp only [Sh.at?, Option.map_eq_some_iff] at ha
        obtain ⟨⟨o', τ'⟩, hat, heq⟩ := ha
        cases heq
        obtain ⟨h1, h2⟩ := ihb h.2 hat hx
        refine ⟨⟨h.1, h1⟩, ?_⟩
        simp only [flat, DV.set, h2]
        have := lay_pre (a := flat a y) (l := flat b z) (o := o') (xs := flat τ' x)
        rw [flat_length h.1] at this
        exact this.symm

theorem at_snoc : ∀ {σ : Sh} {p q : List Nat} {o o' : Nat} {τ τ' : Sh}, σ.at? p = some (o, τ) → τ.at? q = some (o', τ') → σ.at? (p ++ q) = some (o + o', τ') := by
  intro σ
  induction σ with
  | int k => intro p q o o' τ τ' h h'; cases p <;> simp [Sh.at?] at h; obtain ⟨rfl, rfl⟩ := h; simpa using h'
  | bool => intro p q o o' τ τ' h h'; cases p <;> simp [Sh.at?] at h; obtain ⟨rfl, rfl⟩ := h; simpa using h'
  | str => intro p q o o' τ τ' h h'; cases p <;> simp [Sh.at?] at h; obtain ⟨rfl, rfl⟩ := h; simpa using h'
  | unit => intro p q o o' τ τ' h h'; cases p <;> simp [Sh.at?] at h; obtain ⟨rfl, rfl⟩ := h; simpa using h'
  | arr n e ih =>
    intro p q o o' τ τ' h h'
    cases p with
    | nil => simp [Sh.at?] at h; obtain ⟨rfl, rfl⟩ := h; simpa using h'
    | cons i p =>
      simp only [Sh.at?] at h
      split at h
      · rename_i hi
        simp only [Option.map_eq_some_iff] at h
        obtain ⟨⟨a, b⟩, hat, heq⟩ := h
        cases heq
        have := ih hat h'
        simp [Sh.at?, hi, this, Nat.add_assoc]
      · cases h
  | cons a b iha ihb =>
    intro p q o o' τ τ' h h'
    cases p with
    | nil => simp [Sh.at?] at h; obtain ⟨rfl, rfl⟩ := h; simpa using h'
    | cons i p =>
      cases i with
      | zero => simp only [Sh.at?] at h; have := iha h h'; simpa [Sh.at?] using this
      | succ k =>
        simp only [Sh.at?, Option.map_eq_some_iff] at h
        obtain ⟨⟨c, d⟩, hat, heq⟩ := h
        cases heq
        have := ihb hat h'
        simp only [List.cons_append] at this ⊢
        simp [Sh.at?, this, Nat.add_assoc]
end Ink
