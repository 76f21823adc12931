/- Contracts of functions of the program, by the texts that it imports. No conditions. -/
import Derived.Test.YtkabilbdppmajaaInkGh
import Derived.Test.YtkabilbdppmajaaInkGg
import Derived.ChangeArms
import Derived.OpenShut
set_option linter.unusedVariables false
set_option linter.unusedSimpArgs false
/- What the law file's marks mean: spots that are marked; the cells of a sheet as spots. No conditions. -/
namespace Ink
open Go
def cellsL (w h : Nat) : List SpotM := (List.range (w * h)).map fun n => ⟨((n % w : Nat) : Int), ((n / w : Nat) : Int)⟩
section
variable {keep : SpotM → Bool} {l : List SpotM} {n : Nat} {p : SpotM}
end
end Ink
/- Contracts at any heap whose three blocks may hold pointers. No conditions. -/
namespace Ink
open Go
end Ink
/- What the law file's marks mean: baths that are marked. No conditions. -/
namespace Ink
open Go
section
variable {f : Nat → Int} {L : List (Nat → Int)} {i j q : Nat}
end
end Ink
/- What the program means: a spot looked for in a list; giving a unit. No conditions. -/
namespace Ink
open Go
section
variable {s : SheetM} {x y : Int} {p : SpotM}
end
end Ink
/- What the program means: the cell that is wet last. No conditions. -/
namespace Ink
open Go
section
variable {g : Nat → Nat → Int} {w n m : Nat}
end
section
variable {s o t : SheetM} {W n m : Nat} {r : Int} {g : Nat → Nat → Int}
end
end Ink
/- What the program means: ink that runs until it stands. No conditions. -/
namespace Ink
open Go
section
variable {s : SheetM} {t : DryM} {x y : Int} {l : List SpotM} {i n k : Nat}
end
end Ink
/- Slices that come from outside: what lies in memory where they point. No conditions. -/
namespace Ink
open Go Go.ChangeShapes Go.WideShapes Go.RowKit
section
variable {H : Type} {enc : TypeId × Value → H} {P : Program} {w : World} {base : Nat} {sp : Nat → Bool} {hd : Bool}
end
end Ink
/- A writer of one block that looks at two others; cells at an edge. No conditions. -/
namespace Ink
open Go
theorem ACall.at3w {P : Program} {f : FuncId} {args : List AV} {v : AV} {A A' B C : Blk} (h : ACall P [0] f args [A, B, C] v [A', B, C]) (hA : noRef A = true) (hA' : noRef A' = true) (hw : A.wr = true) (hw' : A'.wr = true)
    (hl : B.lv = true ∧ C.lv = true) (hsB : inScopeB 3 B ∧ inScopeB 3 C) {H : Heap} {a b c : Nat} (ha : H[a]? = some A)
    (hb : H[b]? = some (renB (kap [a, b, c] 3 H.length) B)) (hc : H[c]? = some (renB (kap [a, b, c] 3 H.length) C)) (hnd : [a, b, c].Nodup)
    {args' : List AV} {v' : AV} (hs : inScopes 3 args) (hargs : rens (kap [a, b, c] 3 H.length) args = args') (hv : ren (kap [a, b, c] 3 H.length) v = v') :
    ACall P [a] f args' H v' (H.set a A') := by
  subst hargs; subst hv
  have hne : a ≠ b ∧ a ≠ c := by simp at hnd; omega
  have := ACall.frame (Hm := [A, B, C]) (Hm' := [A', B, C]) (N := []) h rfl (H := H) [a, b, c] rfl hnd (fun i E hi => by
    match i with
    | 0 => simp at hi; subst hi; simpa [renB_of hA] using ha
    | 1 => simp at hi; subst hi; simpa using hb
    | 2 => simp at hi; subst hi; simpa using hc
    | i + 3 => simp at hi) hs (fun E hE => by
      simp at hE
      rcases hE with rfl | rfl | rfl
      · exact sc_of hA _
      · exact hsB.1
      · exact hsB.2) (fun i hi => by
    simp at hi
    subst hi
    refine ⟨by simp, fun E hE => ?_⟩
    simp at hE
    subst hE
    exact hw) (fun E hE => by
      simp at hE
      rcases hE with rfl | rfl | rfl
      · exact lv_of hA
      · exact hl.1
      · exact hl.2) (by simp [hw, hw'])
  simp only [setAll, renB_of hA', List.length_cons, List.length_nil, Nat.zero_add, List.map_nil, List.append_nil, List.map_cons] at this
  have e0 : kap [a, b, c] (1 + 1 + 1) H.length 0 = a := by simp [kap]
  have e1 : kap [a, b, c] (1 + 1 + 1) H.length 1 = b := by simp [kap]
  have e2 : kap [a, b, c] (1 + 1 + 1) H.length (1 + 1) = c := by simp [kap]
  rw [e0, e1, e2, set_same (H := H.set a A') (by rw [List.getElem?_set_ne hne.1]; exact hb), set_same (H := H.set a A') (by rw [List.getElem?_set_ne hne.2]; exact hc)] at this
  exact this

noncomputable def edgeKeep (s : SheetM) (p : SpotM) : Bool := decide (0 < wetM s p.x p.y) && (nbrs s p.x p.y).any (fun q => decide (¬ 0 < wetM s q.x q.y))
noncomputable abbrev edgeL (s : SheetM) : List SpotM := (cellsL s.w.toNat s.h.toNat).filter (edgeKeep s)
end Ink
/- A reader of three blocks that makes new ones; rows of bools; cells at a ring. No conditions. -/
namespace Ink
open Go
/-! ### Rows of bools -/
def b2 (g : Nat → Nat → Bool) : DV := .arr fun j => .arr fun i => .bool (g j i)
def v2 (g : Nat → Nat → Bool) (y x : Nat) (v : Bool) : Nat → Nat → Bool := fun j i => if j = y ∧ i = x then v else g j i
section
variable {g : Nat → Nat → Bool} {x y : Nat} {v : Bool}
variable {f : Nat → Nat → Bool}
end
def ringKeep (f : Nat → Nat → Int) (r : Int) (p : SpotM) : Bool := decide (f p.y.toNat p.x.toNat = r)
noncomputable abbrev ringL (s : SheetM) (r : Int) : List SpotM := (cellsL s.w.toNat s.h.toNat).filter (ringKeep (ringsM s) r)
end Ink
/- A writer of two blocks; what the program means: a brush that touches a cell. No conditions. -/
namespace Ink
open Go
section
variable {s : SheetM} {b : BrushM} {x y : Int} {k : Nat}
end
end Ink
/- What the program means: sheets that can be folded. No conditions. -/
namespace Ink
open Go
section
variable {s : SheetM} {p : PairM} {k i : Nat} {l : List PairM}
end
section
variable {s : SheetM} {f : FoldM} {c : Int}
end
end Ink
/- The top of a law that takes lists of data without pointers: what the row asks, out of a contract. No conditions. -/
namespace Ink
open Go Go.ChangeShapes Go.WideShapes Go.RowKit
section
variable {H : Type} {enc : TypeId × Value → H} {P : Program} {w w' : World}
end
end Ink
namespace Ink
open Go Go.ChangeShapes Go.WideShapes Go.RowKit
end Ink
/- What the program means: paths of cells. No conditions. -/
namespace Ink
open Go
def besideW (p : SpotM) : List SpotM := [⟨p.x, IntKind.i8.wrap (p.y - 1)⟩, ⟨IntKind.i8.wrap (p.x + 1), p.y⟩, ⟨p.x, IntKind.i8.wrap (p.y + 1)⟩, ⟨IntKind.i8.wrap (p.x - 1), p.y⟩]
def stepW (a b : SpotM) : Prop := b ∈ besideW a
def stepL (a b : SpotM) : Prop := b ∈ besideL a.x a.y
def StepsTo (R : SpotM → SpotM → Prop) (N : List SpotM) (k : Nat) : Prop := ∀ (j : Nat) (h : j + 1 < N.length), j + 1 < k → R N[j] N[j + 1]
section
variable {R R' : SpotM → SpotM → Prop} {N : List SpotM} {k : Nat} {s : SheetM}
def isPathW (N : List SpotM) : Prop := StepsTo stepW N N.length ∧ 1 ≤ N.length ∧ N.length ≤ 80
def pathP (s : SheetM) (N : List SpotM) : Prop := (∀ p ∈ N, hasP s p.x p.y) ∧ StepsTo stepL N N.length ∧ 1 ≤ N.length ∧ N.length ≤ 80
noncomputable instance {s N} : Decidable (pathP s N) := Classical.propDecidable _
noncomputable instance {N} : Decidable (isPathW N) := Classical.propDecidable _
noncomputable instance {a b} : Decidable (stepW a b) := Classical.propDecidable _
noncomputable instance {a b} : Decidable (stepL a b) := Classical.propDecidable _
/-! ### A path that is waxed -/
variable {i : Nat} {p : SpotM}
def emptyP (s : SheetM) (p : SpotM) : Prop := wetM s p.x p.y = 0 ∧ darkM s p.x p.y = 0
noncomputable instance {s p} : Decidable (emptyP s p) := Classical.propDecidable _
end
section
variable {σ : Nat → Nat} {m : Nat}
end
/-! ### Lists that are copied -/
section
variable {N : List SpotM} {i : Nat}
end
end Ink
/- What the program means: a brush along a path. No conditions. -/
namespace Ink
open Go
section
variable {s : SheetM} {b : BrushM} {x y : Int} {k : Nat}
variable {N : List SpotM} {i : Nat} {p : SpotM}
structure Stk (s : SheetM) (t : SheetM × BrushM) : Prop where
  ok : t.1.Ok
  bok : t.2.Ok
  val : validS t.1
  bval : brushP t.2
  has : ∀ x y, hasP t.1 x y ↔ hasP s x y
  wax : ∀ x y, waxP t.1 x y ↔ waxP s x y
end
end Ink
