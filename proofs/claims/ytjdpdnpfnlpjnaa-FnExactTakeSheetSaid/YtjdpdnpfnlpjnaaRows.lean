/-
  No cell of these rows narrows 'for every input' (looked for: loops, veiled, ifaces, maps, wideKeys, modest, calm, conditions, laid).
  DERIVED. THE GIVEN ROWS OF THIS SEAT. 12 by the template 'for every input the law returns true; each argument reads behind the call as it read before'; 0 by the template 'total and deterministic' (their statements: YtjdpdnpfnlpjnaaTotals.lean).
  GIVEN WITH THE SEED: the statements are not yours to turn. If you find one false, say at which input.
  Laid BY PROGRAM, IN A SANDBOX (cutbox-rows.mjs): the forced cells as the released guide's own fill.sh prints them over the translation a5974aa4483e7db7… (all of the seat's roots in one cut). By AI agents, Wed Nov 11 2026. No macro, syntax, notation, axiom, sorry.
-/
import Derived.Test.YtjdpdnpfnlpjnaaChecked
import GoSem.Claim
import GoSem.ClaimJoined
import GoSem.ClaimMapViews
import Derived.JoinedTies
import Derived.KernelRfl
namespace Go.Proofs.Ytjdpdnpfnlpjnaa
/- THE CELL 'sum', in the pinned program and in every row, IS THE sha256 OF THE DUMP (.gsa) THAT YtjdpdnpfnlpjnaaProg.lean LOADS. Nothing in Lean hashes anything: it is a label: what it is worth is what the hold of that sum in a sandbox is worth. -/
noncomputable def Try.pinned : Pinned := { name := "ytjdpdnpfnlpjnaa", sum := "a5974aa4483e7db75d63affd592cac7c4aa3189bb3caf21cd892794c0534e8f5", checked := Try.checked }
namespace Rows
def none {H : Type} : Left H := { results := [], args := [] }

/-- 'laws.FnExactLastWet': WHATEVER THE INPUT: true; the input reads as it did. -/
def fnExactLastWetSpec : ChangeSpec := { name := "fnExactLastWet", fn := fun _ => fun
  | [d] => { results := [.lit (.bool true)], args := [d] }
  | _ => none }
def fnExactLastWetRow : OpenClaim := { program := "ytjdpdnpfnlpjnaa", sum := "a5974aa4483e7db75d63affd592cac7c4aa3189bb3caf21cd892794c0534e8f5", func := "loop.example/g01360/laws.FnExactLastWet", spec := "fnExactLastWet", unfollowed := true, recurses := true, apart := false }
def FnExactLastWetSaid : Prop := fnExactLastWetRow.holds Try.pinned (OpenSpec.ofChange fnExactLastWetSpec)

/-- ITS FALSE NEIGHBOUR: 'it returns false'. Refute it at one input. -/
def fnExactLastWetWrong : ChangeSpec := { name := "fnExactLastWet", fn := fun _ => fun
  | [d] => { results := [.lit (.bool false)], args := [d] }
  | _ => none }
def FnExactLastWetWrongFalsely : Prop := fnExactLastWetRow.holds Try.pinned (OpenSpec.ofChange fnExactLastWetWrong)

/-- 'laws.FnExactRunUntil': WHATEVER THE INPUT: true; the input reads as it did. -/
def fnExactRunUntilSpec : ChangeSpec := { name := "fnExactRunUntil", fn := fun _ => fun
  | [d] => { results := [.lit (.bool true)], args := [d] }
  | _ => none }
def fnExactRunUntilRow : OpenClaim := { program := "ytjdpdnpfnlpjnaa", sum := "a5974aa4483e7db75d63affd592cac7c4aa3189bb3caf21cd892794c0534e8f5", func := "loop.example/g01360/laws.FnExactRunUntil", spec := "fnExactRunUntil", unfollowed := true, recurses := true, apart := false }
def FnExactRunUntilSaid : Prop := fnExactRunUntilRow.holds Try.pinned (OpenSpec.ofChange fnExactRunUntilSpec)

/-- ITS FALSE NEIGHBOUR: 'it returns false'. Refute it at one input. -/
def fnExactRunUntilWrong : ChangeSpec := { name := "fnExactRunUntil", fn := fun _ => fun
  | [d] => { results := [.lit (.bool false)], args := [d] }
  | _ => none }
def FnExactRunUntilWrongFalsely : Prop := fnExactRunUntilRow.holds Try.pinned (OpenSpec.ofChange fnExactRunUntilWrong)

/-- 'laws.FnExactRingCells': WHATEVER THE INPUT: true; the input reads as it did. -/
def fnExactRingCellsSpec : ChangeSpec := { name := "fnExactRingCells", fn := fun _ => fun
  | [d1, d2] => { results := [.lit (.bool true)], args := [d1, d2] }
  | _ => none }
def fnExactRingCellsRow : OpenClaim := { program := "ytjdpdnpfnlpjnaa", sum := "a5974aa4483e7db75d63affd592cac7c4aa3189bb3caf21cd892794c0534e8f5", func := "loop.example/g01360/laws.FnExactRingCells", spec := "fnExactRingCells", unfollowed := true, recurses := true, apart := false }
def FnExactRingCellsSaid : Prop := fnExactRingCellsRow.holds Try.pinned (OpenSpec.ofChange fnExactRingCellsSpec)

/-- ITS FALSE NEIGHBOUR: 'it returns false'. Refute it at one input. -/
def fnExactRingCellsWrong : ChangeSpec := { name := "fnExactRingCells", fn := fun _ => fun
  | [d1, d2] => { results := [.lit (.bool false)], args := [d1, d2] }
  | _ => none }
def FnExactRingCellsWrongFalsely : Prop := fnExactRingCellsRow.holds Try.pinned (OpenSpec.ofChange fnExactRingCellsWrong)

/-- 'laws.FnExactEdgeCells': WHATEVER THE INPUT: true; the input reads as it did. -/
def fnExactEdgeCellsSpec : ChangeSpec := { name := "fnExactEdgeCells", fn := fun _ => fun
  | [d] => { results := [.lit (.bool true)], args := [d] }
  | _ => none }
def fnExactEdgeCellsRow : OpenClaim := { program := "ytjdpdnpfnlpjnaa", sum := "a5974aa4483e7db75d63affd592cac7c4aa3189bb3caf21cd892794c0534e8f5", func := "loop.example/g01360/laws.FnExactEdgeCells", spec := "fnExactEdgeCells", unfollowed := true, recurses := true, apart := false }
def FnExactEdgeCellsSaid : Prop := fnExactEdgeCellsRow.holds Try.pinned (OpenSpec.ofChange fnExactEdgeCellsSpec)

/-- ITS FALSE NEIGHBOUR: 'it returns false'. Refute it at one input. -/
def fnExactEdgeCellsWrong : ChangeSpec := { name := "fnExactEdgeCells", fn := fun _ => fun
  | [d] => { results := [.lit (.bool false)], args := [d] }
  | _ => none }
def FnExactEdgeCellsWrongFalsely : Prop := fnExactEdgeCellsRow.holds Try.pinned (OpenSpec.ofChange fnExactEdgeCellsWrong)

/-- 'laws.FnExactDyeOf': WHATEVER THE INPUT: true; the input reads as it did. -/
def fnExactDyeOfSpec : ChangeSpec := { name := "fnExactDyeOf", fn := fun _ => fun
  | [d] => { results := [.lit (.bool true)], args := [d] }
  | _ => none }
def fnExactDyeOfRow : OpenClaim := { program := "ytjdpdnpfnlpjnaa", sum := "a5974aa4483e7db75d63affd592cac7c4aa3189bb3caf21cd892794c0534e8f5", func := "loop.example/g01360/laws.FnExactDyeOf", spec := "fnExactDyeOf", unfollowed := true, recurses := true, apart := false }
def FnExactDyeOfSaid : Prop := fnExactDyeOfRow.holds Try.pinned (OpenSpec.ofChange fnExactDyeOfSpec)

/-- ITS FALSE NEIGHBOUR: 'it returns false'. Refute it at one input. -/
def fnExactDyeOfWrong : ChangeSpec := { name := "fnExactDyeOf", fn := fun _ => fun
  | [d] => { results := [.lit (.bool false)], args := [d] }
  | _ => none }
def FnExactDyeOfWrongFalsely : Prop := fnExactDyeOfRow.holds Try.pinned (OpenSpec.ofChange fnExactDyeOfWrong)

/-- 'laws.FnExactReachedBy': WHATEVER THE INPUT: true; the input reads as it did. -/
def fnExactReachedBySpec : ChangeSpec := { name := "fnExactReachedBy", fn := fun _ => fun
  | [d1, d2] => { results := [.lit (.bool true)], args := [d1, d2] }
  | _ => none }
def fnExactReachedByRow : OpenClaim := { program := "ytjdpdnpfnlpjnaa", sum := "a5974aa4483e7db75d63affd592cac7c4aa3189bb3caf21cd892794c0534e8f5", func := "loop.example/g01360/laws.FnExactReachedBy", spec := "fnExactReachedBy", unfollowed := true, recurses := true, apart := false }
def FnExactReachedBySaid : Prop := fnExactReachedByRow.holds Try.pinned (OpenSpec.ofChange fnExactReachedBySpec)

/-- ITS FALSE NEIGHBOUR: 'it returns false'. Refute it at one input. -/
def fnExactReachedByWrong : ChangeSpec := { name := "fnExactReachedBy", fn := fun _ => fun
  | [d1, d2] => { results := [.lit (.bool false)], args := [d1, d2] }
  | _ => none }
def FnExactReachedByWrongFalsely : Prop := fnExactReachedByRow.holds Try.pinned (OpenSpec.ofChange fnExactReachedByWrong)

/-- 'laws.FnExactTurnStack': WHATEVER THE INPUT: true; the input reads as it did. -/
def fnExactTurnStackSpec : ChangeSpec := { name := "fnExactTurnStack", fn := fun _ => fun
  | [d] => { results := [.lit (.bool true)], args := [d] }
  | _ => none }
def fnExactTurnStackRow : OpenClaim := { program := "ytjdpdnpfnlpjnaa", sum := "a5974aa4483e7db75d63affd592cac7c4aa3189bb3caf21cd892794c0534e8f5", func := "loop.example/g01360/laws.FnExactTurnStack", spec := "fnExactTurnStack", unfollowed := true, recurses := true, apart := false }
def FnExactTurnStackSaid : Prop := fnExactTurnStackRow.holds Try.pinned (OpenSpec.ofChange fnExactTurnStackSpec)

/-- ITS FALSE NEIGHBOUR: 'it returns false'. Refute it at one input. -/
def fnExactTurnStackWrong : ChangeSpec := { name := "fnExactTurnStack", fn := fun _ => fun
  | [d] => { results := [.lit (.bool false)], args := [d] }
  | _ => none }
def FnExactTurnStackWrongFalsely : Prop := fnExactTurnStackRow.holds Try.pinned (OpenSpec.ofChange fnExactTurnStackWrong)

/-- 'laws.FnExactDryStack': WHATEVER THE INPUT: true; the input reads as it did. -/
def fnExactDryStackSpec : ChangeSpec := { name := "fnExactDryStack", fn := fun _ => fun
  | [d1, d2] => { results := [.lit (.bool true)], args := [d1, d2] }
  | _ => none }
def fnExactDryStackRow : OpenClaim := { program := "ytjdpdnpfnlpjnaa", sum := "a5974aa4483e7db75d63affd592cac7c4aa3189bb3caf21cd892794c0534e8f5", func := "loop.example/g01360/laws.FnExactDryStack", spec := "fnExactDryStack", unfollowed := true, recurses := true, apart := false }
def FnExactDryStackSaid : Prop := fnExactDryStackRow.holds Try.pinned (OpenSpec.ofChange fnExactDryStackSpec)

/-- ITS FALSE NEIGHBOUR: 'it returns false'. Refute it at one input. -/
def fnExactDryStackWrong : ChangeSpec := { name := "fnExactDryStack", fn := fun _ => fun
  | [d1, d2] => { results := [.lit (.bool false)], args := [d1, d2] }
  | _ => none }
def FnExactDryStackWrongFalsely : Prop := fnExactDryStackRow.holds Try.pinned (OpenSpec.ofChange fnExactDryStackWrong)

/-- 'laws.FnExactDryTimes': WHATEVER THE INPUT: true; the input reads as it did. -/
def fnExactDryTimesSpec : ChangeSpec := { name := "fnExactDryTimes", fn := fun _ => fun
  | [d1, d2] => { results := [.lit (.bool true)], args := [d1, d2] }
  | _ => none }
def fnExactDryTimesRow : OpenClaim := { program := "ytjdpdnpfnlpjnaa", sum := "a5974aa4483e7db75d63affd592cac7c4aa3189bb3caf21cd892794c0534e8f5", func := "loop.example/g01360/laws.FnExactDryTimes", spec := "fnExactDryTimes", unfollowed := true, recurses := true, apart := false }
def FnExactDryTimesSaid : Prop := fnExactDryTimesRow.holds Try.pinned (OpenSpec.ofChange fnExactDryTimesSpec)

/-- ITS FALSE NEIGHBOUR: 'it returns false'. Refute it at one input. -/
def fnExactDryTimesWrong : ChangeSpec := { name := "fnExactDryTimes", fn := fun _ => fun
  | [d1, d2] => { results := [.lit (.bool false)], args := [d1, d2] }
  | _ => none }
def FnExactDryTimesWrongFalsely : Prop := fnExactDryTimesRow.holds Try.pinned (OpenSpec.ofChange fnExactDryTimesWrong)

/-- 'laws.FnExactTakeSheet': WHATEVER THE INPUT: true; the input reads as it did. -/
def fnExactTakeSheetSpec : ChangeSpec := { name := "fnExactTakeSheet", fn := fun _ => fun
  | [d1, d2] => { results := [.lit (.bool true)], args := [d1, d2] }
  | _ => none }
def fnExactTakeSheetRow : OpenClaim := { program := "ytjdpdnpfnlpjnaa", sum := "a5974aa4483e7db75d63affd592cac7c4aa3189bb3caf21cd892794c0534e8f5", func := "loop.example/g01360/laws.FnExactTakeSheet", spec := "fnExactTakeSheet", unfollowed := true, recurses := true, apart := false }
def FnExactTakeSheetSaid : Prop := fnExactTakeSheetRow.holds Try.pinned (OpenSpec.ofChange fnExactTakeSheetSpec)

/-- ITS FALSE NEIGHBOUR: 'it returns false'. Refute it at one input. -/
def fnExactTakeSheetWrong : ChangeSpec := { name := "fnExactTakeSheet", fn := fun _ => fun
  | [d1, d2] => { results := [.lit (.bool false)], args := [d1, d2] }
  | _ => none }
def FnExactTakeSheetWrongFalsely : Prop := fnExactTakeSheetRow.holds Try.pinned (OpenSpec.ofChange fnExactTakeSheetWrong)

/-- 'laws.FnExactWaxPath': WHATEVER THE INPUT: true; the input reads as it did. -/
def fnExactWaxPathSpec : ChangeSpec := { name := "fnExactWaxPath", fn := fun _ => fun
  | [d1, d2] => { results := [.lit (.bool true)], args := [d1, d2] }
  | _ => none }
def fnExactWaxPathRow : OpenClaim := { program := "ytjdpdnpfnlpjnaa", sum := "a5974aa4483e7db75d63affd592cac7c4aa3189bb3caf21cd892794c0534e8f5", func := "loop.example/g01360/laws.FnExactWaxPath", spec := "fnExactWaxPath", unfollowed := true, recurses := true, apart := false }
def FnExactWaxPathSaid : Prop := fnExactWaxPathRow.holds Try.pinned (OpenSpec.ofChange fnExactWaxPathSpec)

/-- ITS FALSE NEIGHBOUR: 'it returns false'. Refute it at one input. -/
def fnExactWaxPathWrong : ChangeSpec := { name := "fnExactWaxPath", fn := fun _ => fun
  | [d1, d2] => { results := [.lit (.bool false)], args := [d1, d2] }
  | _ => none }
def FnExactWaxPathWrongFalsely : Prop := fnExactWaxPathRow.holds Try.pinned (OpenSpec.ofChange fnExactWaxPathWrong)

/-- 'laws.FnExactCellsUntilDry': WHATEVER THE INPUT: true; the input reads as it did. -/
def fnExactCellsUntilDrySpec : ChangeSpec := { name := "fnExactCellsUntilDry", fn := fun _ => fun
  | [d1, d2, d3] => { results := [.lit (.bool true)], args := [d1, d2, d3] }
  | _ => none }
def fnExactCellsUntilDryRow : OpenClaim := { program := "ytjdpdnpfnlpjnaa", sum := "a5974aa4483e7db75d63affd592cac7c4aa3189bb3caf21cd892794c0534e8f5", func := "loop.example/g01360/laws.FnExactCellsUntilDry", spec := "fnExactCellsUntilDry", unfollowed := true, recurses := true, apart := false }
def FnExactCellsUntilDrySaid : Prop := fnExactCellsUntilDryRow.holds Try.pinned (OpenSpec.ofChange fnExactCellsUntilDrySpec)

/-- ITS FALSE NEIGHBOUR: 'it returns false'. Refute it at one input. -/
def fnExactCellsUntilDryWrong : ChangeSpec := { name := "fnExactCellsUntilDry", fn := fun _ => fun
  | [d1, d2, d3] => { results := [.lit (.bool false)], args := [d1, d2, d3] }
  | _ => none }
def FnExactCellsUntilDryWrongFalsely : Prop := fnExactCellsUntilDryRow.holds Try.pinned (OpenSpec.ofChange fnExactCellsUntilDryWrong)

/- THE SECOND FORM. 'bulk': how many values and letters a reading holds, each counted each time it is reached (what is shared counts as often as it is met; a slice's spare places count too). A statement '..UptoSaid' is the law's where the arguments, and the package variables that the reading takes, are together of bulk at most 1048576: NARROWER than '..Said'. Prove '..Said' where nothing that the law and all that it calls make is longer than what came in: it says more and counts as full. Else prove '..UptoSaid'. A law counts once. -/
mutual
def uptoBulk {H : Type} : DataW H → Nat
  | .lit (.string bytes) => bytes.length + 1
  | .lit _ => 1
  | .nil => 1
  | .ptr d => uptoBulk d + 1
  | .slice elems spare => uptoBulkAll elems + uptoBulkAll spare + 1
  | .agg parts => uptoBulkAll parts + 1
  | .iface _ d => uptoBulk d + 1
  | .map entries => uptoBulkEntries entries + 1
  | .held _ => 1
def uptoBulkAll {H : Type} : List (DataW H) → Nat
  | [] => 0
  | d :: r => uptoBulk d + uptoBulkAll r
def uptoBulkEntries {H : Type} : List (Lit × DataW H) → Nat
  | [] => 0
  | x :: r => uptoBulkEntry x + uptoBulkEntries r
def uptoBulkEntry {H : Type} : Lit × DataW H → Nat
  | (.string bytes, d) => bytes.length + uptoBulk d + 1
  | (_, d) => uptoBulk d + 1
 end
def uptoSmall : (H : Type) → List (DataW H) → Bool := fun _ ds => decide (uptoBulkAll ds ≤ 1048576)
def OpenSpec.upto (s : _root_.Go.ChangeSpec) : _root_.Go.OpenSpec := { _root_.Go.OpenSpec.ofChange s with cond := some uptoSmall }

/-- 'laws.FnExactLastWet', WHERE WHAT IT READS IS OF BULK AT MOST 1048576: true; the input reads as it did. -/
def fnExactLastWetUptoRow : OpenClaim := { program := "ytjdpdnpfnlpjnaa", sum := "a5974aa4483e7db75d63affd592cac7c4aa3189bb3caf21cd892794c0534e8f5", func := "loop.example/g01360/laws.FnExactLastWet", spec := "fnExactLastWet", unfollowed := true, recurses := true, apart := false, narrowed := true }
def FnExactLastWetUptoSaid : Prop := fnExactLastWetUptoRow.holds Try.pinned (OpenSpec.upto fnExactLastWetSpec)

/-- 'laws.FnExactRunUntil', WHERE WHAT IT READS IS OF BULK AT MOST 1048576: true; the input reads as it did. -/
def fnExactRunUntilUptoRow : OpenClaim := { program := "ytjdpdnpfnlpjnaa", sum := "a5974aa4483e7db75d63affd592cac7c4aa3189bb3caf21cd892794c0534e8f5", func := "loop.example/g01360/laws.FnExactRunUntil", spec := "fnExactRunUntil", unfollowed := true, recurses := true, apart := false, narrowed := true }
def FnExactRunUntilUptoSaid : Prop := fnExactRunUntilUptoRow.holds Try.pinned (OpenSpec.upto fnExactRunUntilSpec)

/-- 'laws.FnExactRingCells', WHERE WHAT IT READS IS OF BULK AT MOST 1048576: true; the input reads as it did. -/
def fnExactRingCellsUptoRow : OpenClaim := { program := "ytjdpdnpfnlpjnaa", sum := "a5974aa4483e7db75d63affd592cac7c4aa3189bb3caf21cd892794c0534e8f5", func := "loop.example/g01360/laws.FnExactRingCells", spec := "fnExactRingCells", unfollowed := true, recurses := true, apart := false, narrowed := true }
def FnExactRingCellsUptoSaid : Prop := fnExactRingCellsUptoRow.holds Try.pinned (OpenSpec.upto fnExactRingCellsSpec)

/-- 'laws.FnExactEdgeCells', WHERE WHAT IT READS IS OF BULK AT MOST 1048576: true; the input reads as it did. -/
def fnExactEdgeCellsUptoRow : OpenClaim := { program := "ytjdpdnpfnlpjnaa", sum := "a5974aa4483e7db75d63affd592cac7c4aa3189bb3caf21cd892794c0534e8f5", func := "loop.example/g01360/laws.FnExactEdgeCells", spec := "fnExactEdgeCells", unfollowed := true, recurses := true, apart := false, narrowed := true }
def FnExactEdgeCellsUptoSaid : Prop := fnExactEdgeCellsUptoRow.holds Try.pinned (OpenSpec.upto fnExactEdgeCellsSpec)

/-- 'laws.FnExactDyeOf', WHERE WHAT IT READS IS OF BULK AT MOST 1048576: true; the input reads as it did. -/
def fnExactDyeOfUptoRow : OpenClaim := { program := "ytjdpdnpfnlpjnaa", sum := "a5974aa4483e7db75d63affd592cac7c4aa3189bb3caf21cd892794c0534e8f5", func := "loop.example/g01360/laws.FnExactDyeOf", spec := "fnExactDyeOf", unfollowed := true, recurses := true, apart := false, narrowed := true }
def FnExactDyeOfUptoSaid : Prop := fnExactDyeOfUptoRow.holds Try.pinned (OpenSpec.upto fnExactDyeOfSpec)

/-- 'laws.FnExactReachedBy', WHERE WHAT IT READS IS OF BULK AT MOST 1048576: true; the input reads as it did. -/
def fnExactReachedByUptoRow : OpenClaim := { program := "ytjdpdnpfnlpjnaa", sum := "a5974aa4483e7db75d63affd592cac7c4aa3189bb3caf21cd892794c0534e8f5", func := "loop.example/g01360/laws.FnExactReachedBy", spec := "fnExactReachedBy", unfollowed := true, recurses := true, apart := false, narrowed := true }
def FnExactReachedByUptoSaid : Prop := fnExactReachedByUptoRow.holds Try.pinned (OpenSpec.upto fnExactReachedBySpec)

/-- 'laws.FnExactTurnStack', WHERE WHAT IT READS IS OF BULK AT MOST 1048576: true; the input reads as it did. -/
def fnExactTurnStackUptoRow : OpenClaim := { program := "ytjdpdnpfnlpjnaa", sum := "a5974aa4483e7db75d63affd592cac7c4aa3189bb3caf21cd892794c0534e8f5", func := "loop.example/g01360/laws.FnExactTurnStack", spec := "fnExactTurnStack", unfollowed := true, recurses := true, apart := false, narrowed := true }
def FnExactTurnStackUptoSaid : Prop := fnExactTurnStackUptoRow.holds Try.pinned (OpenSpec.upto fnExactTurnStackSpec)

/-- 'laws.FnExactDryStack', WHERE WHAT IT READS IS OF BULK AT MOST 1048576: true; the input reads as it did. -/
def fnExactDryStackUptoRow : OpenClaim := { program := "ytjdpdnpfnlpjnaa", sum := "a5974aa4483e7db75d63affd592cac7c4aa3189bb3caf21cd892794c0534e8f5", func := "loop.example/g01360/laws.FnExactDryStack", spec := "fnExactDryStack", unfollowed := true, recurses := true, apart := false, narrowed := true }
def FnExactDryStackUptoSaid : Prop := fnExactDryStackUptoRow.holds Try.pinned (OpenSpec.upto fnExactDryStackSpec)

/-- 'laws.FnExactDryTimes', WHERE WHAT IT READS IS OF BULK AT MOST 1048576: true; the input reads as it did. -/
def fnExactDryTimesUptoRow : OpenClaim := { program := "ytjdpdnpfnlpjnaa", sum := "a5974aa4483e7db75d63affd592cac7c4aa3189bb3caf21cd892794c0534e8f5", func := "loop.example/g01360/laws.FnExactDryTimes", spec := "fnExactDryTimes", unfollowed := true, recurses := true, apart := false, narrowed := true }
def FnExactDryTimesUptoSaid : Prop := fnExactDryTimesUptoRow.holds Try.pinned (OpenSpec.upto fnExactDryTimesSpec)

/-- 'laws.FnExactTakeSheet', WHERE WHAT IT READS IS OF BULK AT MOST 1048576: true; the input reads as it did. -/
def fnExactTakeSheetUptoRow : OpenClaim := { program := "ytjdpdnpfnlpjnaa", sum := "a5974aa4483e7db75d63affd592cac7c4aa3189bb3caf21cd892794c0534e8f5", func := "loop.example/g01360/laws.FnExactTakeSheet", spec := "fnExactTakeSheet", unfollowed := true, recurses := true, apart := false, narrowed := true }
def FnExactTakeSheetUptoSaid : Prop := fnExactTakeSheetUptoRow.holds Try.pinned (OpenSpec.upto fnExactTakeSheetSpec)

/-- 'laws.FnExactWaxPath', WHERE WHAT IT READS IS OF BULK AT MOST 1048576: true; the input reads as it did. -/
def fnExactWaxPathUptoRow : OpenClaim := { program := "ytjdpdnpfnlpjnaa", sum := "a5974aa4483e7db75d63affd592cac7c4aa3189bb3caf21cd892794c0534e8f5", func := "loop.example/g01360/laws.FnExactWaxPath", spec := "fnExactWaxPath", unfollowed := true, recurses := true, apart := false, narrowed := true }
def FnExactWaxPathUptoSaid : Prop := fnExactWaxPathUptoRow.holds Try.pinned (OpenSpec.upto fnExactWaxPathSpec)

/-- 'laws.FnExactCellsUntilDry', WHERE WHAT IT READS IS OF BULK AT MOST 1048576: true; the input reads as it did. -/
def fnExactCellsUntilDryUptoRow : OpenClaim := { program := "ytjdpdnpfnlpjnaa", sum := "a5974aa4483e7db75d63affd592cac7c4aa3189bb3caf21cd892794c0534e8f5", func := "loop.example/g01360/laws.FnExactCellsUntilDry", spec := "fnExactCellsUntilDry", unfollowed := true, recurses := true, apart := false, narrowed := true }
def FnExactCellsUntilDryUptoSaid : Prop := fnExactCellsUntilDryUptoRow.holds Try.pinned (OpenSpec.upto fnExactCellsUntilDrySpec)

end Rows
end Go.Proofs.Ytjdpdnpfnlpjnaa
