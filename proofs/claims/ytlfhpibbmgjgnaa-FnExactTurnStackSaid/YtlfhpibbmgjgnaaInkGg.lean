/- Contracts of functions of the program, by the texts that it imports. No conditions. -/
import Derived.Test.YtlfhpibbmgjgnaaInkGf
set_option linter.unusedVariables false
set_option linter.unusedSimpArgs false
/- What the program means: brushes, more. No conditions. -/
namespace Ink
open Go
end Ink
/- What the program means: the order of spots; sums over pairs. No conditions. -/
namespace Ink
open Go
end Ink
/- What the program means: by how much the cells of pairs differ. No conditions. -/
namespace Ink
open Go
def sizeM (d : Int) : Int := maxM d (0 - d)
def diffK (f g : Nat → Int) (k : Nat) : Int := sizeM (f k - g k)
abbrev pairA (s : SheetM) (p : PairM) : Nat → Int := s.dye p.ay.toNat p.ax.toNat
abbrev pairB (s : SheetM) (p : PairM) : Nat → Int := s.dye p.by'.toNat p.bx.toNat
def pairOff (s : SheetM) (p : PairM) : Int := sumTo (diffK (pairA s p) (pairB s p)) 3
def offTo (s : SheetM) (l : List PairM) : Nat → Int
  | 0 => 0
  | i + 1 => offTo s l i + (match l[i]? with | some p => pairOff s p | none => 0)
section
variable {s : SheetM} {l : List PairM} {i : Nat} {p : PairM}
end
noncomputable def offM (s : SheetM) (f : FoldM) : Int := offTo s (pairsM s f) (pairsM s f).length
section
variable {s : SheetM} {f : FoldM} {c : Int}
end
end Ink
/- What the program means: all folds of a sheet, and the best. No conditions. -/
namespace Ink
open Go
def foldsD (a b : Nat) : List FoldM := (List.range a).map (fun (i : Nat) => (⟨(i : Int) + 1, false, 8⟩ : FoldM)) ++ (List.range b).map fun (i : Nat) => (⟨(i : Int) + 1, true, 8⟩ : FoldM)
abbrev foldsM (s : SheetM) : List FoldM := foldsD (s.w.toNat - 1) (s.h.toNat - 1)
noncomputable def bestTo (s : SheetM) (l : List FoldM) : Nat → FoldM × Int
  | 0 => (⟨0, false, 0⟩, -1)
  | i + 1 => match l[i]? with
    | some f => if (bestTo s l i).2 < 0 ∨ offM s f < (bestTo s l i).2 then (f, offM s f) else bestTo s l i
    | none => bestTo s l i
section
variable {s : SheetM} {l : List FoldM} {i : Nat} {f : FoldM}
end
noncomputable abbrev bestA (s : SheetM) : FoldM × Int := bestTo s (foldsM s) (foldsM s).length
end Ink
/- What the program means: pairs that are made even. No conditions. -/
namespace Ink
open Go
end Ink
/- What the program means: baths. No conditions. -/
namespace Ink
open Go
section
variable {s : SheetM} {share : Int} {n k : Nat}
end
def cleanP (share rinses bound : Int) : Prop := (1 ≤ share ∧ share ≤ 15) ∧ (0 ≤ rinses ∧ rinses ≤ 100) ∧ 0 ≤ bound
instance {a b c} : Decidable (cleanP a b c) := by unfold cleanP; infer_instance
section
variable {s : SheetM} {share rinses bound c : Int} {i : Nat}
end
end Ink
/- What the program means: lists out of which something is deleted; lists that are marked. No conditions. -/
namespace Ink
open Go
section
variable {α : Type} {keep : α → Bool} {l : List α} {j : Nat} {v : α}
end
end Ink
/- What the law file's marks mean: folds and baths that are marked. No conditions. -/
namespace Ink
open Go
section
variable {α : Type} {g : Nat → α} {l : List α} {i : Nat} {v : α}
theorem set_set {y z : α} : (l.set i y).set i z = l.set i z := List.set_set ..
end
end Ink
