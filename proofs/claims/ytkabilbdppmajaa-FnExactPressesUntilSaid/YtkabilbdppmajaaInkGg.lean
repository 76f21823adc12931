/- Contracts of functions of the program, by the texts that it imports. No conditions. -/
import Derived.Test.YtkabilbdppmajaaInkGf
set_option linter.unusedVariables false
set_option linter.unusedSimpArgs false
/- What the program means: brushes, more. No conditions. -/
namespace Ink
open Go
end Ink
/- What the program means: the order of spots; sums over pairs. No conditions. -/
namespace Ink
open Go
def cmpI (a b : Int) : Int := if a < b then -1 else if b < a then 1 else 0
def orI (a b : Int) : Int := if a = 0 then b else a
def ordI (ax ay bx by' : Int) : Int := orI (cmpI ay by') (cmpI ax bx)
theorem ordI_lt {f : FoldM} {x y : Int} : ordI x y (partX f x) (partY f y) < 0 ↔ firstP f x y := by
  unfold ordI orI cmpI partX partY firstP
  by_cases h : f.down = true
  · simp only [h, if_true]
    split <;> split at * <;> (try split at *) <;> omega
  · simp only [h, if_false]
    split <;> split at * <;> (try split at *) <;> (try split) <;> (try split) <;> (try split at *) <;> (try simp only [Bool.false_eq_true, if_false]) <;> omega
end Ink
/- What the program means: by how much the cells of pairs differ. No conditions. -/
namespace Ink
open Go
def sizeM (d : Int) : Int := maxM d (0 - d)
theorem mm_size {d : Int} : mm true d (0 - d) = sizeM d := by
  unfold mm sizeM maxM
  simp only [if_true]
  split <;> split <;> omega
theorem sizeM_nn {d : Int} : 0 ≤ sizeM d := by unfold sizeM maxM; split <;> omega
theorem sizeM_le {d : Int} (h : -65535 ≤ d ∧ d ≤ 65535) : sizeM d ≤ 65535 := by unfold sizeM maxM; split <;> omega
def diffK (f g : Nat → Int) (k : Nat) : Int := sizeM (f k - g k)
theorem diffK_bd {f g : Nat → Int} (hf : ∀ i, -32768 ≤ f i ∧ f i < 32768) (hg : ∀ i, -32768 ≤ g i ∧ g i < 32768) (k : Nat) : 0 ≤ diffK f g k ∧ diffK f g k ≤ 65535 := by
  have := hf k
  have := hg k
  exact ⟨sizeM_nn, sizeM_le (by omega)⟩
theorem diffTo_bd {f g : Nat → Int} (hf : ∀ i, -32768 ≤ f i ∧ f i < 32768) (hg : ∀ i, -32768 ≤ g i ∧ g i < 32768) {n : Nat} : 0 ≤ sumTo (diffK f g) n ∧ sumTo (diffK f g) n ≤ 65535 * (n : Int) := by
  have := sumTo_le (f := diffK f g) (n := n) (a := 0) (b := 65535) fun k _ => diffK_bd hf hg k
  omega
abbrev pairA (s : SheetM) (p : PairM) : Nat → Int := s.dye p.ay.toNat p.ax.toNat
abbrev pairB (s : SheetM) (p : PairM) : Nat → Int := s.dye p.by'.toNat p.bx.toNat
def pairOff (s : SheetM) (p : PairM) : Int := sumTo (diffK (pairA s p) (pairB s p)) 3
def offTo (s : SheetM) (l : List PairM) : Nat → Int
  | 0 => 0
  | i + 1 => offTo s l i + (match l[i]? with | some p => pairOff s p | none => 0)
def mxInk (f : Nat → Int) (m : Int) : Nat → Int
  | 0 => m
  | k + 1 => maxM (mxInk f m k) (f k)
def mxTo (s : SheetM) (l : List PairM) : Nat → Int
  | 0 => 0
  | i + 1 => (match l[i]? with | some p => mxInk (diffK (pairA s p) (pairB s p)) (mxTo s l i) 3 | none => mxTo s l i)
section
variable {s : SheetM} {l : List PairM} {i : Nat} {p : PairM}
theorem offTo_succ (h : l[i]? = some p) : offTo s l (i + 1) = offTo s l i + pairOff s p := by rw [offTo, h]
theorem mxTo_succ (h : l[i]? = some p) : mxTo s l (i + 1) = mxInk (diffK (pairA s p) (pairB s p)) (mxTo s l i) 3 := by rw [mxTo, h]
theorem mxInk_succ {f m} {k : Nat} : mxInk f m (k + 1) = maxM (mxInk f m k) (f k) := rfl
theorem offTo_bd (hs : s.Ok) : 0 ≤ offTo s l i ∧ offTo s l i ≤ 196605 * (i : Int) := by
  induction i with
  | zero => simp [offTo]
  | succ i ih =>
    rw [offTo]
    split
    · rename_i p _
      have := diffTo_bd (f := pairA s p) (g := pairB s p) (fun k => hs.dye _ _ k) (fun k => hs.dye _ _ k) (n := 3)
      unfold pairOff
      omega
    · omega
end
noncomputable def offM (s : SheetM) (f : FoldM) : Int := offTo s (pairsM s f) (pairsM s f).length
noncomputable def mxM (s : SheetM) (f : FoldM) : Int := mxTo s (pairsM s f) (pairsM s f).length
section
variable {s : SheetM} {f : FoldM} {c : Int}
end
theorem zl3 {s : SheetM} {f : FoldM} (hm : small s) {i : Nat} (hi : i < (pairsM s f).length) : ∃ p, (pairsM s f)[i]? = some p ∧ ((pairsM s f).map pairV)[i]? = some (pairD p.ax p.ay p.bx p.by') ∧ in8 p.ax p.ay ∧ in8 p.bx p.by' := by
  refine ⟨(pairsM s f)[i], List.getElem?_eq_getElem hi, map_get (g := pairV) (List.getElem?_eq_getElem hi), ?_⟩
  have := pairsTo_mem (s := s) (f := f) hm (Nat.le_refl _) (List.getElem_mem hi)
  exact ⟨this.1, this.2.1⟩
end Ink
/- What the program means: all folds of a sheet, and the best. No conditions. -/
namespace Ink
open Go
def foldsD (a b : Nat) : List FoldM := (List.range a).map (fun (i : Nat) => (⟨(i : Int) + 1, false, 8⟩ : FoldM)) ++ (List.range b).map fun (i : Nat) => (⟨(i : Int) + 1, true, 8⟩ : FoldM)
abbrev foldsM (s : SheetM) : List FoldM := foldsD (s.w.toNat - 1) (s.h.toNat - 1)
noncomputable def bestTo (s : SheetM) (l : List FoldM) : Nat → FoldM × Int
  | 0 => (⟨0, false, 0⟩, -1)
  | i + 1 => match l[i]? with
    | some f => if (bestTo s l i).2 < 0 ∨ offM s f < (bestTo s l i).2 then (f, offM s f) else bestTo s l i
    | none => bestTo s l i
section
variable {s : SheetM} {l : List FoldM} {i : Nat} {f : FoldM}
end
noncomputable abbrev bestA (s : SheetM) : FoldM × Int := bestTo s (foldsM s) (foldsM s).length
end Ink
/- What the program means: pairs that are made even. No conditions. -/
namespace Ink
open Go
theorem pairsTo_ne {s : SheetM} {f : FoldM} {n : Nat} {p : PairM} (hp : p ∈ pairsTo s f n) : ¬ (p.ax = p.bx ∧ p.ay = p.by') := by
  induction n with
  | zero => simp [pairsTo] at hp
  | succ n ih =>
    rw [pairsTo] at hp
    split at hp
    · rcases List.mem_append.1 hp with hp | hp
      · exact ih hp
      · simp only [List.mem_singleton] at hp
        subst hp
        unfold partX partY
        rintro ⟨h1, h2⟩
        dsimp only at h1 h2
        by_cases hd : f.down = true
        · simp only [hd, if_true] at h2; omega
        · simp only [hd, Bool.false_eq_true, if_false] at h1; omega
    · exact ih hp
theorem u3_comm {α : Type} {f : Nat → Nat → Nat → α} {a b c a' b' c' : Nat} {v w : α} (h : ¬ (a = a' ∧ b = b' ∧ c = c')) : u3 (u3 f a b c v) a' b' c' w = u3 (u3 f a' b' c' w) a b c v := by
  funext i j k
  rw [u3_at, u3_at, u3_at, u3_at]
  by_cases h1 : i = a ∧ j = b ∧ k = c
  · by_cases h2 : i = a' ∧ j = b' ∧ k = c'
    · exact absurd ⟨h1.1.symm.trans h2.1, h1.2.1.symm.trans h2.2.1, h1.2.2.symm.trans h2.2.2⟩ h
    · rw [if_neg h2, if_pos h1, if_pos h1]
  · by_cases h2 : i = a' ∧ j = b' ∧ k = c'
    · obtain ⟨rfl, rfl, rfl⟩ := h2
      simp only [h1, and_self, if_true, if_false]
    · simp only [h1, h2, if_false]
end Ink
/- What the program means: baths. No conditions. -/
namespace Ink
open Go
section
variable {s : SheetM} {share : Int} {n k : Nat}
end
def cleanP (share rinses bound : Int) : Prop := (1 ≤ share ∧ share ≤ 15) ∧ (0 ≤ rinses ∧ rinses ≤ 100) ∧ 0 ≤ bound
instance {a b c} : Decidable (cleanP a b c) := by unfold cleanP; infer_instance
section
variable {s : SheetM} {share rinses bound c : Int} {i : Nat}
end
end Ink
/- What the program means: lists out of which something is deleted; lists that are marked. No conditions. -/
namespace Ink
open Go
section
variable {α : Type} {keep : α → Bool} {l : List α} {j : Nat} {v : α}
end
end Ink
/- What the law file's marks mean: folds and baths that are marked. No conditions. -/
namespace Ink
open Go
section
variable {α : Type} {g : Nat → α} {l : List α} {i : Nat} {v : α}
end
end Ink
