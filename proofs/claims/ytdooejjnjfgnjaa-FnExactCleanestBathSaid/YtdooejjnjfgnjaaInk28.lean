/- What the program means: pairs of partners. No conditions. -/
import Derived.Test.YtdooejjnjfgnjaaInk27
set_option linter.unusedVariables false
set_option linter.unusedSimpArgs false
namespace Ink
open Go
structure PairM where
  ax : Int
  ay : Int
  bx : Int
  by' : Int
def pairD (a b c d : Int) : DV := .arr fun i => if i = 0 then spotD a b else if i = 1 then spotD c d else spotD 0 0
def pairV (p : PairM) : DV := pairD p.ax p.ay p.bx p.by'
abbrev shPair : Sh := .arr 2 shSpot
section
variable {a b c d x y : Int} {p : List Nat}
theorem pair_zero : (Sh.arr 2 shSpot).zero = pairD 0 0 0 0 := by
  show DV.arr (fun _ => spotD 0 0) = DV.arr _
  congr 1; funext i; split
  · rfl
  · split <;> rfl
theorem pair_fl0 : (Sh.arr 2 shSpot).fld 0 = some shSpot := rfl
theorem pair_fl1 : (Sh.arr 2 shSpot).fld 1 = some shSpot := rfl
theorem pair_get0 : (pairD a b c d).get (0 :: p) = (spotD a b).get p := by unfold pairD; rw [DV.get]; simp
theorem pair_get1 : (pairD a b c d).get (1 :: p) = (spotD c d).get p := by unfold pairD; rw [DV.get]; simp
theorem pair_set0 : (pairD a b c d).set [0] (spotD x y) = pairD x y c d := by
  unfold pairD; rw [DV.set]; congr 1; funext j
  by_cases h : j = 0
  · subst h; simp [DV.set]
  · simp [h]
theorem pair_set1 : (pairD a b c d).set [1] (spotD x y) = pairD a b x y := by
  unfold pairD; rw [DV.set]; congr 1; funext j
  by_cases h : j = 1
  · subst h; simp [DV.set]
  · simp [h]
theorem pair_Has : Has shPair (pairD a b c d) := fun i hi => by
  dsimp only
  split
  · exact spot_Has
  · split <;> exact spot_Has
theorem pair_size : shPair.size = 4 := rfl
end
def firstP (f : FoldM) (x y : Int) : Prop := (if f.down then y else x) < f.axis
def pairP (s : SheetM) (f : FoldM) (x y : Int) : Prop := firstP f x y ∧ hasP s (partX f x) (partY f y) ∧ ¬ waxP s x y ∧ ¬ waxP s (partX f x) (partY f y)
noncomputable instance {s f x y} : Decidable (pairP s f x y) := Classical.propDecidable _
noncomputable def pairsTo (s : SheetM) (f : FoldM) : Nat → List PairM
  | 0 => []
  | n + 1 => if pairP s f (n % s.w.toNat : Nat) (n / s.w.toNat : Nat) then pairsTo s f n ++ [⟨(n % s.w.toNat : Nat), (n / s.w.toNat : Nat), partX f (n % s.w.toNat : Nat), partY f (n / s.w.toNat : Nat)⟩] else pairsTo s f n
section
variable {s : SheetM} {f : FoldM} {n : Nat}
theorem pairsTo_zero : pairsTo s f 0 = [] := rfl
theorem pairsTo_yes (h : pairP s f (n % s.w.toNat : Nat) (n / s.w.toNat : Nat)) : pairsTo s f (n + 1) = pairsTo s f n ++ [⟨(n % s.w.toNat : Nat), (n / s.w.toNat : Nat), partX f (n % s.w.toNat : Nat), partY f (n / s.w.toNat : Nat)⟩] := by rw [pairsTo, if_pos h]
theorem pairsTo_no (h : ¬ pairP s f (n % s.w.toNat : Nat) (n / s.w.toNat : Nat)) : pairsTo s f (n + 1) = pairsTo s f n := by rw [pairsTo, if_neg h]
theorem pairsTo_len : (pairsTo s f n).length ≤ n := by
  induction n with
  | zero => simp [pairsTo]
  | succ n ih =>
    rw [pairsTo]; split
    · simp; omega
    · omega
theorem pairsTo_mem (hm : small s) (hn : n ≤ s.w.toNat * s.h.toNat) {p : PairM} (hp : p ∈ pairsTo s f n) : in8 p.ax p.ay ∧ in8 p.bx p.by' ∧ ¬ waxP s p.ax p.ay ∧ ¬ waxP s p.bx p.by' ∧ hasP s p.ax p.ay ∧ hasP s p.bx p.by' := by
  induction n with
  | zero => simp [pairsTo] at hp
  | succ n ih =>
    rw [pairsTo] at hp
    split at hp
    · rename_i h
      rcases List.mem_append.1 hp with hp | hp
      · exact ih (by omega) hp
      · simp only [List.mem_singleton] at hp
        subst hp
        have hc := cell_in (w := s.w.toNat) (h := s.h.toNat) (n := n) (by omega)
        obtain ⟨_, h2, h3, h4⟩ := h
        refine ⟨in8_of (by omega) (by omega), ?_, h3, h4, ?_, h2⟩
        · unfold hasP at h2; dsimp only; omega
        · unfold hasP; dsimp only
          generalize n % s.w.toNat = a at *
          generalize n / s.w.toNat = b at *
          omega
    · exact ih (by omega) hp
end
noncomputable abbrev pairsM (s : SheetM) (f : FoldM) : List PairM := pairsTo s f (s.w.toNat * s.h.toNat)
theorem map_get {α β : Type} {l : List α} {g : α → β} {i : Nat} {a : α} (h : l[i]? = some a) : (l.map g)[i]? = some (g a) := by rw [List.getElem?_map, h]; rfl
end Ink
