/- What the program means: pairs that are made even. No conditions. -/
import Derived.Test.YtdooejjnjfgnjaaInk33
set_option linter.unusedVariables false
set_option linter.unusedSimpArgs false
namespace Ink
open Go
theorem pairsTo_ne {s : SheetM} {f : FoldM} {n : Nat} {p : PairM} (hp : p ∈ pairsTo s f n) : ¬ (p.ax = p.bx ∧ p.ay = p.by') := by
  induction n with
  | zero => simp [pairsTo] at hp
  | succ n ih =>
    rw [pairsTo] at hp
    split at hp
    · rcases List.mem_append.1 hp with hp | hp
      · exact ih hp
      · simp only [List.mem_singleton] at hp
        subst hp
        unfold partX partY
        rintro ⟨h1, h2⟩
        dsimp only at h1 h2
        by_cases hd : f.down = true
        · simp only [hd, if_true] at h2; omega
        · simp only [hd, Bool.false_eq_true, if_false] at h1; omega
    · exact ih hp
abbrev evA (s : SheetM) (p : PairM) (k : Nat) : Int := s.dye p.ay.toNat p.ax.toNat k + s.dye p.by'.toNat p.bx.toNat k
def even1 (s : SheetM) (p : PairM) (k : Nat) : SheetM :=
  { s with dye := u3 (u3 s.dye p.ay.toNat p.ax.toNat k (evA s p k - (evA s p k).tdiv 2)) p.by'.toNat p.bx.toNat k ((evA s p k).tdiv 2) }
def evenInk (s : SheetM) (p : PairM) : Nat → SheetM
  | 0 => s
  | k + 1 => even1 (evenInk s p k) p k
def evenTo (s : SheetM) (l : List PairM) : Nat → SheetM
  | 0 => s
  | i + 1 => match l[i]? with | some p => evenInk (evenTo s l i) p 3 | none => evenTo s l i
theorem evenInk_zero {s p} : evenInk s p 0 = s := rfl
theorem evenInk_succ {s p} {k : Nat} : evenInk s p (k + 1) = even1 (evenInk s p k) p k := rfl
theorem evenTo_zero {s l} : evenTo s l 0 = s := rfl
theorem evenTo_succ {s : SheetM} {l : List PairM} {i : Nat} {p : PairM} (h : l[i]? = some p) : evenTo s l (i + 1) = evenInk (evenTo s l i) p 3 := by rw [evenTo, h]
theorem u3_comm {α : Type} {f : Nat → Nat → Nat → α} {a b c a' b' c' : Nat} {v w : α} (h : ¬ (a = a' ∧ b = b' ∧ c = c')) : u3 (u3 f a b c v) a' b' c' w = u3 (u3 f a' b' c' w) a b c v := by
  funext i j k
  rw [u3_at, u3_at, u3_at, u3_at]
  by_cases h1 : i = a ∧ j = b ∧ k = c
  · by_cases h2 : i = a' ∧ j = b' ∧ k = c'
    · exact absurd ⟨h1.1.symm.trans h2.1, h1.2.1.symm.trans h2.2.1, h1.2.2.symm.trans h2.2.2⟩ h
    · rw [if_neg h2, if_pos h1, if_pos h1]
  · by_cases h2 : i = a' ∧ j = b' ∧ k = c'
    · obtain ⟨rfl, rfl, rfl⟩ := h2
      simp only [h1, and_self, if_true, if_false]
    · simp only [h1, h2, if_false]
theorem even_bd {a b : Int} (ha : 0 ≤ a ∧ a ≤ 1000) (hb : 0 ≤ b ∧ b ≤ 1000) : (0 ≤ (a + b).tdiv 2 ∧ (a + b).tdiv 2 ≤ 1000) ∧ 0 ≤ a + b - (a + b).tdiv 2 ∧ a + b - (a + b).tdiv 2 ≤ 1000 := by
  rw [Int.tdiv_eq_ediv_of_nonneg (by omega)]
  omega
theorem even1_ok {s : SheetM} {p : PairM} {k : Nat} (hd : dyeOk s) (h8 : in8 p.ax p.ay) (g8 : in8 p.bx p.by') (hk : k < 3) : dyeOk (even1 s p k) := by
  intro y x q hy hx hq
  have h1 := hd p.ay.toNat p.ax.toNat k (by omega) (by omega) hk
  have h2 := hd p.by'.toNat p.bx.toNat k (by omega) (by omega) hk
  have h3 := even_bd h1 h2
  unfold even1
  dsimp only
  rw [u3_at, u3_at]
  split
  · exact h3.1
  · split
    · exact h3.2
    · exact hd y x q hy hx hq
theorem evenInk_ok {s : SheetM} {p : PairM} (hd : dyeOk s) (h8 : in8 p.ax p.ay) (g8 : in8 p.bx p.by') : ∀ k, k ≤ 3 → dyeOk (evenInk s p k) := by
  intro k
  induction k with
  | zero => exact fun _ => hd
  | succ k ih => exact fun hk => even1_ok (ih (by omega)) h8 g8 (by omega)
theorem evenTo_ok {s : SheetM} {f : FoldM} (hd : dyeOk s) (hm : small s) : ∀ i, i ≤ (pairsM s f).length → dyeOk (evenTo s (pairsM s f) i) := by
  intro i
  induction i with
  | zero => exact fun _ => hd
  | succ i ih =>
    intro hi
    obtain ⟨p, hp, _, h8, g8⟩ := pair_list (s := s) (f := f) hm (i := i) (by omega)
    rw [evenTo_succ hp]
    exact evenInk_ok (ih (by omega)) h8 g8 3 (by omega)
noncomputable def evenV (s : SheetM) (f : FoldM) : AV := codeV (askF s f true) (evenTo s (pairsM s f) (pairsM s f).length)
/-- What one step reads and writes. -/
theorem even_wrap {s : SheetM} {p : PairM} {k : Nat} (hd : dyeOk s) (h8 : in8 p.ax p.ay) (g8 : in8 p.bx p.by') (hk : k < 3) :
    IntKind.i16.wrap (s.dye p.ay.toNat p.ax.toNat k + s.dye p.by'.toNat p.bx.toNat k) = s.dye p.ay.toNat p.ax.toNat k + s.dye p.by'.toNat p.bx.toNat k ∧
    IntKind.i16.wrap ((s.dye p.ay.toNat p.ax.toNat k + s.dye p.by'.toNat p.bx.toNat k).tdiv 2) = (s.dye p.ay.toNat p.ax.toNat k + s.dye p.by'.toNat p.bx.toNat k).tdiv 2 ∧
    IntKind.i16.wrap (s.dye p.ay.toNat p.ax.toNat k + s.dye p.by'.toNat p.bx.toNat k - (s.dye p.ay.toNat p.ax.toNat k + s.dye p.by'.toNat p.bx.toNat k).tdiv 2) = s.dye p.ay.toNat p.ax.toNat k + s.dye p.by'.toNat p.bx.toNat k - (s.dye p.ay.toNat p.ax.toNat k + s.dye p.by'.toNat p.bx.toNat k).tdiv 2 := by
  have h1 := hd p.ay.toNat p.ax.toNat k (by omega) (by omega) hk
  have h2 := hd p.by'.toNat p.bx.toNat k (by omega) (by omega) hk
  have h3 := even_bd h1 h2
  exact ⟨wrap_i16 (by omega) (by omega), wrap_i16 (by omega) (by omega), wrap_i16 (by omega) (by omega)⟩
theorem even1_swap {s : SheetM} {p : PairM} {k : Nat} (hne : ¬ (p.ax = p.bx ∧ p.ay = p.by')) (h8 : in8 p.ax p.ay) (g8 : in8 p.bx p.by') :
    even1 s p k = { s with dye := u3 (u3 s.dye p.by'.toNat p.bx.toNat k ((s.dye p.ay.toNat p.ax.toNat k + s.dye p.by'.toNat p.bx.toNat k).tdiv 2)) p.ay.toNat p.ax.toNat k (s.dye p.ay.toNat p.ax.toNat k + s.dye p.by'.toNat p.bx.toNat k - (s.dye p.ay.toNat p.ax.toNat k + s.dye p.by'.toNat p.bx.toNat k).tdiv 2) } := by
  unfold even1
  rw [u3_comm (fun h => hne ⟨by omega, by omega⟩)]
end Ink
