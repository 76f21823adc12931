/-
  No cell of these rows narrows 'for every input' (looked for: loops, veiled, ifaces, maps, wideKeys, modest, calm, conditions, laid).
  DERIVED. THE GIVEN ROWS OF THIS SEAT. 12 by the template 'for every input the law returns true; each argument reads behind the call as it read before'; 0 by the template 'total and deterministic' (their statements: YtaabokmbkohieaaTotals.lean).
  GIVEN WITH THE SEED: the statements are not yours to turn. If you find one false, say at which input.
  Laid BY PROGRAM, IN A SANDBOX (cutbox-rows.mjs): the forced cells as the released guide's own fill.sh prints them over the translation 2ab4d67bc90fe0fd… (all of the seat's roots in one cut). By AI agents, Wed Nov 11 2026. No macro, syntax, notation, axiom, sorry.
-/
import Derived.Test.YtaabokmbkohieaaChecked
import GoSem.Claim
import GoSem.ClaimJoined
import GoSem.ClaimMapViews
import Derived.JoinedTies
import Derived.KernelRfl
namespace Go.Proofs.Ytaabokmbkohieaa
/- THE CELL 'sum', in the pinned program and in every row, IS THE sha256 OF THE DUMP (.gsa) THAT YtaabokmbkohieaaProg.lean LOADS. Nothing in Lean hashes anything: it is a label: what it is worth is what the hold of that sum in a sandbox is worth. -/
noncomputable def Try.pinned : Pinned := { name := "ytaabokmbkohieaa", sum := "2ab4d67bc90fe0fd47d5890ece6492e7c919a2066a26aa9b105560c322be8d65", checked := Try.checked }
namespace Rows
def none {H : Type} : Left H := { results := [], args := [] }

/-- 'laws.FnExactPairsOf': WHATEVER THE INPUT: true; the input reads as it did. -/
def fnExactPairsOfSpec : ChangeSpec := { name := "fnExactPairsOf", fn := fun _ => fun
  | [d1, d2] => { results := [.lit (.bool true)], args := [d1, d2] }
  | _ => none }
def fnExactPairsOfRow : OpenClaim := { program := "ytaabokmbkohieaa", sum := "2ab4d67bc90fe0fd47d5890ece6492e7c919a2066a26aa9b105560c322be8d65", func := "loop.example/g01360/laws.FnExactPairsOf", spec := "fnExactPairsOf", apart := false }
def FnExactPairsOfSaid : Prop := fnExactPairsOfRow.holds Try.pinned (OpenSpec.ofChange fnExactPairsOfSpec)

/-- ITS FALSE NEIGHBOUR: 'it returns false'. Refute it at one input. -/
def fnExactPairsOfWrong : ChangeSpec := { name := "fnExactPairsOf", fn := fun _ => fun
  | [d1, d2] => { results := [.lit (.bool false)], args := [d1, d2] }
  | _ => none }
def FnExactPairsOfWrongFalsely : Prop := fnExactPairsOfRow.holds Try.pinned (OpenSpec.ofChange fnExactPairsOfWrong)

/-- 'laws.FnExactFoldsOf': WHATEVER THE INPUT: true; the input reads as it did. -/
def fnExactFoldsOfSpec : ChangeSpec := { name := "fnExactFoldsOf", fn := fun _ => fun
  | [d] => { results := [.lit (.bool true)], args := [d] }
  | _ => none }
def fnExactFoldsOfRow : OpenClaim := { program := "ytaabokmbkohieaa", sum := "2ab4d67bc90fe0fd47d5890ece6492e7c919a2066a26aa9b105560c322be8d65", func := "loop.example/g01360/laws.FnExactFoldsOf", spec := "fnExactFoldsOf", apart := false }
def FnExactFoldsOfSaid : Prop := fnExactFoldsOfRow.holds Try.pinned (OpenSpec.ofChange fnExactFoldsOfSpec)

/-- ITS FALSE NEIGHBOUR: 'it returns false'. Refute it at one input. -/
def fnExactFoldsOfWrong : ChangeSpec := { name := "fnExactFoldsOf", fn := fun _ => fun
  | [d] => { results := [.lit (.bool false)], args := [d] }
  | _ => none }
def FnExactFoldsOfWrongFalsely : Prop := fnExactFoldsOfRow.holds Try.pinned (OpenSpec.ofChange fnExactFoldsOfWrong)

/-- 'laws.FnExactBathsFor': WHATEVER THE INPUT: true; the input reads as it did. -/
def fnExactBathsForSpec : ChangeSpec := { name := "fnExactBathsFor", fn := fun _ => fun
  | [d1, d2, d3] => { results := [.lit (.bool true)], args := [d1, d2, d3] }
  | _ => none }
def fnExactBathsForRow : OpenClaim := { program := "ytaabokmbkohieaa", sum := "2ab4d67bc90fe0fd47d5890ece6492e7c919a2066a26aa9b105560c322be8d65", func := "loop.example/g01360/laws.FnExactBathsFor", spec := "fnExactBathsFor", apart := false }
def FnExactBathsForSaid : Prop := fnExactBathsForRow.holds Try.pinned (OpenSpec.ofChange fnExactBathsForSpec)

/-- ITS FALSE NEIGHBOUR: 'it returns false'. Refute it at one input. -/
def fnExactBathsForWrong : ChangeSpec := { name := "fnExactBathsFor", fn := fun _ => fun
  | [d1, d2, d3] => { results := [.lit (.bool false)], args := [d1, d2, d3] }
  | _ => none }
def FnExactBathsForWrongFalsely : Prop := fnExactBathsForRow.holds Try.pinned (OpenSpec.ofChange fnExactBathsForWrong)

/-- 'laws.FnExactDyedCells': WHATEVER THE INPUT: true; the input reads as it did. -/
def fnExactDyedCellsSpec : ChangeSpec := { name := "fnExactDyedCells", fn := fun _ => fun
  | [d1, d2] => { results := [.lit (.bool true)], args := [d1, d2] }
  | _ => none }
def fnExactDyedCellsRow : OpenClaim := { program := "ytaabokmbkohieaa", sum := "2ab4d67bc90fe0fd47d5890ece6492e7c919a2066a26aa9b105560c322be8d65", func := "loop.example/g01360/laws.FnExactDyedCells", spec := "fnExactDyedCells", unfollowed := true, recurses := true, apart := false }
def FnExactDyedCellsSaid : Prop := fnExactDyedCellsRow.holds Try.pinned (OpenSpec.ofChange fnExactDyedCellsSpec)

/-- ITS FALSE NEIGHBOUR: 'it returns false'. Refute it at one input. -/
def fnExactDyedCellsWrong : ChangeSpec := { name := "fnExactDyedCells", fn := fun _ => fun
  | [d1, d2] => { results := [.lit (.bool false)], args := [d1, d2] }
  | _ => none }
def FnExactDyedCellsWrongFalsely : Prop := fnExactDyedCellsRow.holds Try.pinned (OpenSpec.ofChange fnExactDyedCellsWrong)

/-- 'laws.FnExactGiveUnit': WHATEVER THE INPUT: true; the input reads as it did. -/
def fnExactGiveUnitSpec : ChangeSpec := { name := "fnExactGiveUnit", fn := fun _ => fun
  | [d1, d2, d3] => { results := [.lit (.bool true)], args := [d1, d2, d3] }
  | _ => none }
def fnExactGiveUnitRow : OpenClaim := { program := "ytaabokmbkohieaa", sum := "2ab4d67bc90fe0fd47d5890ece6492e7c919a2066a26aa9b105560c322be8d65", func := "loop.example/g01360/laws.FnExactGiveUnit", spec := "fnExactGiveUnit", unfollowed := true, recurses := true, apart := false }
def FnExactGiveUnitSaid : Prop := fnExactGiveUnitRow.holds Try.pinned (OpenSpec.ofChange fnExactGiveUnitSpec)

/-- ITS FALSE NEIGHBOUR: 'it returns false'. Refute it at one input. -/
def fnExactGiveUnitWrong : ChangeSpec := { name := "fnExactGiveUnit", fn := fun _ => fun
  | [d1, d2, d3] => { results := [.lit (.bool false)], args := [d1, d2, d3] }
  | _ => none }
def FnExactGiveUnitWrongFalsely : Prop := fnExactGiveUnitRow.holds Try.pinned (OpenSpec.ofChange fnExactGiveUnitWrong)

/-- 'laws.FnExactDryStep': WHATEVER THE INPUT: true; the input reads as it did. -/
def fnExactDryStepSpec : ChangeSpec := { name := "fnExactDryStep", fn := fun _ => fun
  | [d] => { results := [.lit (.bool true)], args := [d] }
  | _ => none }
def fnExactDryStepRow : OpenClaim := { program := "ytaabokmbkohieaa", sum := "2ab4d67bc90fe0fd47d5890ece6492e7c919a2066a26aa9b105560c322be8d65", func := "loop.example/g01360/laws.FnExactDryStep", spec := "fnExactDryStep", unfollowed := true, recurses := true, apart := false }
def FnExactDryStepSaid : Prop := fnExactDryStepRow.holds Try.pinned (OpenSpec.ofChange fnExactDryStepSpec)

/-- ITS FALSE NEIGHBOUR: 'it returns false'. Refute it at one input. -/
def fnExactDryStepWrong : ChangeSpec := { name := "fnExactDryStep", fn := fun _ => fun
  | [d] => { results := [.lit (.bool false)], args := [d] }
  | _ => none }
def FnExactDryStepWrongFalsely : Prop := fnExactDryStepRow.holds Try.pinned (OpenSpec.ofChange fnExactDryStepWrong)

/-- 'laws.FnExactDryRounds': WHATEVER THE INPUT: true; the input reads as it did. -/
def fnExactDryRoundsSpec : ChangeSpec := { name := "fnExactDryRounds", fn := fun _ => fun
  | [d1, d2] => { results := [.lit (.bool true)], args := [d1, d2] }
  | _ => none }
def fnExactDryRoundsRow : OpenClaim := { program := "ytaabokmbkohieaa", sum := "2ab4d67bc90fe0fd47d5890ece6492e7c919a2066a26aa9b105560c322be8d65", func := "loop.example/g01360/laws.FnExactDryRounds", spec := "fnExactDryRounds", unfollowed := true, recurses := true, apart := false }
def FnExactDryRoundsSaid : Prop := fnExactDryRoundsRow.holds Try.pinned (OpenSpec.ofChange fnExactDryRoundsSpec)

/-- ITS FALSE NEIGHBOUR: 'it returns false'. Refute it at one input. -/
def fnExactDryRoundsWrong : ChangeSpec := { name := "fnExactDryRounds", fn := fun _ => fun
  | [d1, d2] => { results := [.lit (.bool false)], args := [d1, d2] }
  | _ => none }
def FnExactDryRoundsWrongFalsely : Prop := fnExactDryRoundsRow.holds Try.pinned (OpenSpec.ofChange fnExactDryRoundsWrong)

/-- 'laws.FnExactDriesIn': WHATEVER THE INPUT: true; the input reads as it did. -/
def fnExactDriesInSpec : ChangeSpec := { name := "fnExactDriesIn", fn := fun _ => fun
  | [d] => { results := [.lit (.bool true)], args := [d] }
  | _ => none }
def fnExactDriesInRow : OpenClaim := { program := "ytaabokmbkohieaa", sum := "2ab4d67bc90fe0fd47d5890ece6492e7c919a2066a26aa9b105560c322be8d65", func := "loop.example/g01360/laws.FnExactDriesIn", spec := "fnExactDriesIn", unfollowed := true, recurses := true, apart := false }
def FnExactDriesInSaid : Prop := fnExactDriesInRow.holds Try.pinned (OpenSpec.ofChange fnExactDriesInSpec)

/-- ITS FALSE NEIGHBOUR: 'it returns false'. Refute it at one input. -/
def fnExactDriesInWrong : ChangeSpec := { name := "fnExactDriesIn", fn := fun _ => fun
  | [d] => { results := [.lit (.bool false)], args := [d] }
  | _ => none }
def FnExactDriesInWrongFalsely : Prop := fnExactDriesInRow.holds Try.pinned (OpenSpec.ofChange fnExactDriesInWrong)

/-- 'laws.FnExactRingsOf': WHATEVER THE INPUT: true; the input reads as it did. -/
def fnExactRingsOfSpec : ChangeSpec := { name := "fnExactRingsOf", fn := fun _ => fun
  | [d] => { results := [.lit (.bool true)], args := [d] }
  | _ => none }
def fnExactRingsOfRow : OpenClaim := { program := "ytaabokmbkohieaa", sum := "2ab4d67bc90fe0fd47d5890ece6492e7c919a2066a26aa9b105560c322be8d65", func := "loop.example/g01360/laws.FnExactRingsOf", spec := "fnExactRingsOf", unfollowed := true, recurses := true, apart := false }
def FnExactRingsOfSaid : Prop := fnExactRingsOfRow.holds Try.pinned (OpenSpec.ofChange fnExactRingsOfSpec)

/-- ITS FALSE NEIGHBOUR: 'it returns false'. Refute it at one input. -/
def fnExactRingsOfWrong : ChangeSpec := { name := "fnExactRingsOf", fn := fun _ => fun
  | [d] => { results := [.lit (.bool false)], args := [d] }
  | _ => none }
def FnExactRingsOfWrongFalsely : Prop := fnExactRingsOfRow.holds Try.pinned (OpenSpec.ofChange fnExactRingsOfWrong)

/-- 'laws.FnExactRunOnce': WHATEVER THE INPUT: true; the input reads as it did. -/
def fnExactRunOnceSpec : ChangeSpec := { name := "fnExactRunOnce", fn := fun _ => fun
  | [d] => { results := [.lit (.bool true)], args := [d] }
  | _ => none }
def fnExactRunOnceRow : OpenClaim := { program := "ytaabokmbkohieaa", sum := "2ab4d67bc90fe0fd47d5890ece6492e7c919a2066a26aa9b105560c322be8d65", func := "loop.example/g01360/laws.FnExactRunOnce", spec := "fnExactRunOnce", unfollowed := true, recurses := true, apart := false }
def FnExactRunOnceSaid : Prop := fnExactRunOnceRow.holds Try.pinned (OpenSpec.ofChange fnExactRunOnceSpec)

/-- ITS FALSE NEIGHBOUR: 'it returns false'. Refute it at one input. -/
def fnExactRunOnceWrong : ChangeSpec := { name := "fnExactRunOnce", fn := fun _ => fun
  | [d] => { results := [.lit (.bool false)], args := [d] }
  | _ => none }
def FnExactRunOnceWrongFalsely : Prop := fnExactRunOnceRow.holds Try.pinned (OpenSpec.ofChange fnExactRunOnceWrong)

/-- 'laws.FnExactRunRounds': WHATEVER THE INPUT: true; the input reads as it did. -/
def fnExactRunRoundsSpec : ChangeSpec := { name := "fnExactRunRounds", fn := fun _ => fun
  | [d1, d2] => { results := [.lit (.bool true)], args := [d1, d2] }
  | _ => none }
def fnExactRunRoundsRow : OpenClaim := { program := "ytaabokmbkohieaa", sum := "2ab4d67bc90fe0fd47d5890ece6492e7c919a2066a26aa9b105560c322be8d65", func := "loop.example/g01360/laws.FnExactRunRounds", spec := "fnExactRunRounds", unfollowed := true, recurses := true, apart := false }
def FnExactRunRoundsSaid : Prop := fnExactRunRoundsRow.holds Try.pinned (OpenSpec.ofChange fnExactRunRoundsSpec)

/-- ITS FALSE NEIGHBOUR: 'it returns false'. Refute it at one input. -/
def fnExactRunRoundsWrong : ChangeSpec := { name := "fnExactRunRounds", fn := fun _ => fun
  | [d1, d2] => { results := [.lit (.bool false)], args := [d1, d2] }
  | _ => none }
def FnExactRunRoundsWrongFalsely : Prop := fnExactRunRoundsRow.holds Try.pinned (OpenSpec.ofChange fnExactRunRoundsWrong)

/-- 'laws.FnExactIsCalm': WHATEVER THE INPUT: true; the input reads as it did. -/
def fnExactIsCalmSpec : ChangeSpec := { name := "fnExactIsCalm", fn := fun _ => fun
  | [d] => { results := [.lit (.bool true)], args := [d] }
  | _ => none }
def fnExactIsCalmRow : OpenClaim := { program := "ytaabokmbkohieaa", sum := "2ab4d67bc90fe0fd47d5890ece6492e7c919a2066a26aa9b105560c322be8d65", func := "loop.example/g01360/laws.FnExactIsCalm", spec := "fnExactIsCalm", unfollowed := true, recurses := true, apart := false }
def FnExactIsCalmSaid : Prop := fnExactIsCalmRow.holds Try.pinned (OpenSpec.ofChange fnExactIsCalmSpec)

/-- ITS FALSE NEIGHBOUR: 'it returns false'. Refute it at one input. -/
def fnExactIsCalmWrong : ChangeSpec := { name := "fnExactIsCalm", fn := fun _ => fun
  | [d] => { results := [.lit (.bool false)], args := [d] }
  | _ => none }
def FnExactIsCalmWrongFalsely : Prop := fnExactIsCalmRow.holds Try.pinned (OpenSpec.ofChange fnExactIsCalmWrong)

/- THE SECOND FORM. 'bulk': how many values and letters a reading holds, each counted each time it is reached (what is shared counts as often as it is met; a slice's spare places count too). A statement '..UptoSaid' is the law's where the arguments, and the package variables that the reading takes, are together of bulk at most 1048576: NARROWER than '..Said'. Prove '..Said' where nothing that the law and all that it calls make is longer than what came in: it says more and counts as full. Else prove '..UptoSaid'. A law counts once. -/
mutual
def uptoBulk {H : Type} : DataW H → Nat
  | .lit (.string bytes) => bytes.length + 1
  | .lit _ => 1
  | .nil => 1
  | .ptr d => uptoBulk d + 1
  | .slice elems spare => uptoBulkAll elems + uptoBulkAll spare + 1
  | .agg parts => uptoBulkAll parts + 1
  | .iface _ d => uptoBulk d + 1
  | .map entries => uptoBulkEntries entries + 1
  | .held _ => 1
def uptoBulkAll {H : Type} : List (DataW H) → Nat
  | [] => 0
  | d :: r => uptoBulk d + uptoBulkAll r
def uptoBulkEntries {H : Type} : List (Lit × DataW H) → Nat
  | [] => 0
  | x :: r => uptoBulkEntry x + uptoBulkEntries r
def uptoBulkEntry {H : Type} : Lit × DataW H → Nat
  | (.string bytes, d) => bytes.length + uptoBulk d + 1
  | (_, d) => uptoBulk d + 1
 end
def uptoSmall : (H : Type) → List (DataW H) → Bool := fun _ ds => decide (uptoBulkAll ds ≤ 1048576)
def OpenSpec.upto (s : _root_.Go.ChangeSpec) : _root_.Go.OpenSpec := { _root_.Go.OpenSpec.ofChange s with cond := some uptoSmall }

/-- 'laws.FnExactPairsOf', WHERE WHAT IT READS IS OF BULK AT MOST 1048576: true; the input reads as it did. -/
def fnExactPairsOfUptoRow : OpenClaim := { program := "ytaabokmbkohieaa", sum := "2ab4d67bc90fe0fd47d5890ece6492e7c919a2066a26aa9b105560c322be8d65", func := "loop.example/g01360/laws.FnExactPairsOf", spec := "fnExactPairsOf", apart := false, narrowed := true }
def FnExactPairsOfUptoSaid : Prop := fnExactPairsOfUptoRow.holds Try.pinned (OpenSpec.upto fnExactPairsOfSpec)

/-- 'laws.FnExactFoldsOf', WHERE WHAT IT READS IS OF BULK AT MOST 1048576: true; the input reads as it did. -/
def fnExactFoldsOfUptoRow : OpenClaim := { program := "ytaabokmbkohieaa", sum := "2ab4d67bc90fe0fd47d5890ece6492e7c919a2066a26aa9b105560c322be8d65", func := "loop.example/g01360/laws.FnExactFoldsOf", spec := "fnExactFoldsOf", apart := false, narrowed := true }
def FnExactFoldsOfUptoSaid : Prop := fnExactFoldsOfUptoRow.holds Try.pinned (OpenSpec.upto fnExactFoldsOfSpec)

/-- 'laws.FnExactBathsFor', WHERE WHAT IT READS IS OF BULK AT MOST 1048576: true; the input reads as it did. -/
def fnExactBathsForUptoRow : OpenClaim := { program := "ytaabokmbkohieaa", sum := "2ab4d67bc90fe0fd47d5890ece6492e7c919a2066a26aa9b105560c322be8d65", func := "loop.example/g01360/laws.FnExactBathsFor", spec := "fnExactBathsFor", apart := false, narrowed := true }
def FnExactBathsForUptoSaid : Prop := fnExactBathsForUptoRow.holds Try.pinned (OpenSpec.upto fnExactBathsForSpec)

/-- 'laws.FnExactDyedCells', WHERE WHAT IT READS IS OF BULK AT MOST 1048576: true; the input reads as it did. -/
def fnExactDyedCellsUptoRow : OpenClaim := { program := "ytaabokmbkohieaa", sum := "2ab4d67bc90fe0fd47d5890ece6492e7c919a2066a26aa9b105560c322be8d65", func := "loop.example/g01360/laws.FnExactDyedCells", spec := "fnExactDyedCells", unfollowed := true, recurses := true, apart := false, narrowed := true }
def FnExactDyedCellsUptoSaid : Prop := fnExactDyedCellsUptoRow.holds Try.pinned (OpenSpec.upto fnExactDyedCellsSpec)

/-- 'laws.FnExactGiveUnit', WHERE WHAT IT READS IS OF BULK AT MOST 1048576: true; the input reads as it did. -/
def fnExactGiveUnitUptoRow : OpenClaim := { program := "ytaabokmbkohieaa", sum := "2ab4d67bc90fe0fd47d5890ece6492e7c919a2066a26aa9b105560c322be8d65", func := "loop.example/g01360/laws.FnExactGiveUnit", spec := "fnExactGiveUnit", unfollowed := true, recurses := true, apart := false, narrowed := true }
def FnExactGiveUnitUptoSaid : Prop := fnExactGiveUnitUptoRow.holds Try.pinned (OpenSpec.upto fnExactGiveUnitSpec)

/-- 'laws.FnExactDryStep', WHERE WHAT IT READS IS OF BULK AT MOST 1048576: true; the input reads as it did. -/
def fnExactDryStepUptoRow : OpenClaim := { program := "ytaabokmbkohieaa", sum := "2ab4d67bc90fe0fd47d5890ece6492e7c919a2066a26aa9b105560c322be8d65", func := "loop.example/g01360/laws.FnExactDryStep", spec := "fnExactDryStep", unfollowed := true, recurses := true, apart := false, narrowed := true }
def FnExactDryStepUptoSaid : Prop := fnExactDryStepUptoRow.holds Try.pinned (OpenSpec.upto fnExactDryStepSpec)

/-- 'laws.FnExactDryRounds', WHERE WHAT IT READS IS OF BULK AT MOST 1048576: true; the input reads as it did. -/
def fnExactDryRoundsUptoRow : OpenClaim := { program := "ytaabokmbkohieaa", sum := "2ab4d67bc90fe0fd47d5890ece6492e7c919a2066a26aa9b105560c322be8d65", func := "loop.example/g01360/laws.FnExactDryRounds", spec := "fnExactDryRounds", unfollowed := true, recurses := true, apart := false, narrowed := true }
def FnExactDryRoundsUptoSaid : Prop := fnExactDryRoundsUptoRow.holds Try.pinned (OpenSpec.upto fnExactDryRoundsSpec)

/-- 'laws.FnExactDriesIn', WHERE WHAT IT READS IS OF BULK AT MOST 1048576: true; the input reads as it did. -/
def fnExactDriesInUptoRow : OpenClaim := { program := "ytaabokmbkohieaa", sum := "2ab4d67bc90fe0fd47d5890ece6492e7c919a2066a26aa9b105560c322be8d65", func := "loop.example/g01360/laws.FnExactDriesIn", spec := "fnExactDriesIn", unfollowed := true, recurses := true, apart := false, narrowed := true }
def FnExactDriesInUptoSaid : Prop := fnExactDriesInUptoRow.holds Try.pinned (OpenSpec.upto fnExactDriesInSpec)

/-- 'laws.FnExactRingsOf', WHERE WHAT IT READS IS OF BULK AT MOST 1048576: true; the input reads as it did. -/
def fnExactRingsOfUptoRow : OpenClaim := { program := "ytaabokmbkohieaa", sum := "2ab4d67bc90fe0fd47d5890ece6492e7c919a2066a26aa9b105560c322be8d65", func := "loop.example/g01360/laws.FnExactRingsOf", spec := "fnExactRingsOf", unfollowed := true, recurses := true, apart := false, narrowed := true }
def FnExactRingsOfUptoSaid : Prop := fnExactRingsOfUptoRow.holds Try.pinned (OpenSpec.upto fnExactRingsOfSpec)

/-- 'laws.FnExactRunOnce', WHERE WHAT IT READS IS OF BULK AT MOST 1048576: true; the input reads as it did. -/
def fnExactRunOnceUptoRow : OpenClaim := { program := "ytaabokmbkohieaa", sum := "2ab4d67bc90fe0fd47d5890ece6492e7c919a2066a26aa9b105560c322be8d65", func := "loop.example/g01360/laws.FnExactRunOnce", spec := "fnExactRunOnce", unfollowed := true, recurses := true, apart := false, narrowed := true }
def FnExactRunOnceUptoSaid : Prop := fnExactRunOnceUptoRow.holds Try.pinned (OpenSpec.upto fnExactRunOnceSpec)

/-- 'laws.FnExactRunRounds', WHERE WHAT IT READS IS OF BULK AT MOST 1048576: true; the input reads as it did. -/
def fnExactRunRoundsUptoRow : OpenClaim := { program := "ytaabokmbkohieaa", sum := "2ab4d67bc90fe0fd47d5890ece6492e7c919a2066a26aa9b105560c322be8d65", func := "loop.example/g01360/laws.FnExactRunRounds", spec := "fnExactRunRounds", unfollowed := true, recurses := true, apart := false, narrowed := true }
def FnExactRunRoundsUptoSaid : Prop := fnExactRunRoundsUptoRow.holds Try.pinned (OpenSpec.upto fnExactRunRoundsSpec)

/-- 'laws.FnExactIsCalm', WHERE WHAT IT READS IS OF BULK AT MOST 1048576: true; the input reads as it did. -/
def fnExactIsCalmUptoRow : OpenClaim := { program := "ytaabokmbkohieaa", sum := "2ab4d67bc90fe0fd47d5890ece6492e7c919a2066a26aa9b105560c322be8d65", func := "loop.example/g01360/laws.FnExactIsCalm", spec := "fnExactIsCalm", unfollowed := true, recurses := true, apart := false, narrowed := true }
def FnExactIsCalmUptoSaid : Prop := fnExactIsCalmUptoRow.holds Try.pinned (OpenSpec.upto fnExactIsCalmSpec)

end Rows
end Go.Proofs.Ytaabokmbkohieaa
