/-
  No cell of these rows narrows 'for every input' (looked for: loops, veiled, ifaces, maps, wideKeys, modest, calm, conditions, laid).
  DERIVED. THE GIVEN ROWS OF THIS SEAT. 12 by the template 'for every input the law returns true; each argument reads behind the call as it read before'; 0 by the template 'total and deterministic' (their statements: YtdcacbneoldnpaaTotals.lean).
  GIVEN WITH THE SEED: the statements are not yours to turn. If you find one false, say at which input.
  Laid BY PROGRAM, IN A SANDBOX (cutbox-rows.mjs): the forced cells as the released guide's own fill.sh prints them over the translation ae9c3943469ce0d9… (all of the seat's roots in one cut). By AI agents, Wed Nov 11 2026. No macro, syntax, notation, axiom, sorry.
-/
import Derived.Test.YtdcacbneoldnpaaChecked
import GoSem.Claim
import GoSem.ClaimJoined
import GoSem.ClaimMapViews
import Derived.JoinedTies
import Derived.KernelRfl
namespace Go.Proofs.Ytdcacbneoldnpaa
/- THE CELL 'sum', in the pinned program and in every row, IS THE sha256 OF THE DUMP (.gsa) THAT YtdcacbneoldnpaaProg.lean LOADS. Nothing in Lean hashes anything: it is a label: what it is worth is what the hold of that sum in a sandbox is worth. -/
noncomputable def Try.pinned : Pinned := { name := "ytdcacbneoldnpaa", sum := "ae9c3943469ce0d91ce93acfe098001264fc214e4142d279d99d1471922f2ea4", checked := Try.checked }
namespace Rows
def none {H : Type} : Left H := { results := [], args := [] }

/-- 'laws.FnExactColourAt': WHATEVER THE INPUT: true; the input reads as it did. -/
def fnExactColourAtSpec : ChangeSpec := { name := "fnExactColourAt", fn := fun _ => fun
  | [d1, d2] => { results := [.lit (.bool true)], args := [d1, d2] }
  | _ => none }
def fnExactColourAtRow : OpenClaim := { program := "ytdcacbneoldnpaa", sum := "ae9c3943469ce0d91ce93acfe098001264fc214e4142d279d99d1471922f2ea4", func := "loop.example/g01360/laws.FnExactColourAt", spec := "fnExactColourAt", apart := false }
def FnExactColourAtSaid : Prop := fnExactColourAtRow.holds Try.pinned (OpenSpec.ofChange fnExactColourAtSpec)

/-- ITS FALSE NEIGHBOUR: 'it returns false'. Refute it at one input. -/
def fnExactColourAtWrong : ChangeSpec := { name := "fnExactColourAt", fn := fun _ => fun
  | [d1, d2] => { results := [.lit (.bool false)], args := [d1, d2] }
  | _ => none }
def FnExactColourAtWrongFalsely : Prop := fnExactColourAtRow.holds Try.pinned (OpenSpec.ofChange fnExactColourAtWrong)

/-- 'laws.FnExactWettestCell': WHATEVER THE INPUT: true; the input reads as it did. -/
def fnExactWettestCellSpec : ChangeSpec := { name := "fnExactWettestCell", fn := fun _ => fun
  | [d] => { results := [.lit (.bool true)], args := [d] }
  | _ => none }
def fnExactWettestCellRow : OpenClaim := { program := "ytdcacbneoldnpaa", sum := "ae9c3943469ce0d91ce93acfe098001264fc214e4142d279d99d1471922f2ea4", func := "loop.example/g01360/laws.FnExactWettestCell", spec := "fnExactWettestCell", unfollowed := true, recurses := true, apart := false }
def FnExactWettestCellSaid : Prop := fnExactWettestCellRow.holds Try.pinned (OpenSpec.ofChange fnExactWettestCellSpec)

/-- ITS FALSE NEIGHBOUR: 'it returns false'. Refute it at one input. -/
def fnExactWettestCellWrong : ChangeSpec := { name := "fnExactWettestCell", fn := fun _ => fun
  | [d] => { results := [.lit (.bool false)], args := [d] }
  | _ => none }
def FnExactWettestCellWrongFalsely : Prop := fnExactWettestCellRow.holds Try.pinned (OpenSpec.ofChange fnExactWettestCellWrong)

/-- 'laws.FnExactDarkestCell': WHATEVER THE INPUT: true; the input reads as it did. -/
def fnExactDarkestCellSpec : ChangeSpec := { name := "fnExactDarkestCell", fn := fun _ => fun
  | [d] => { results := [.lit (.bool true)], args := [d] }
  | _ => none }
def fnExactDarkestCellRow : OpenClaim := { program := "ytdcacbneoldnpaa", sum := "ae9c3943469ce0d91ce93acfe098001264fc214e4142d279d99d1471922f2ea4", func := "loop.example/g01360/laws.FnExactDarkestCell", spec := "fnExactDarkestCell", unfollowed := true, recurses := true, apart := false }
def FnExactDarkestCellSaid : Prop := fnExactDarkestCellRow.holds Try.pinned (OpenSpec.ofChange fnExactDarkestCellSpec)

/-- ITS FALSE NEIGHBOUR: 'it returns false'. Refute it at one input. -/
def fnExactDarkestCellWrong : ChangeSpec := { name := "fnExactDarkestCell", fn := fun _ => fun
  | [d] => { results := [.lit (.bool false)], args := [d] }
  | _ => none }
def FnExactDarkestCellWrongFalsely : Prop := fnExactDarkestCellRow.holds Try.pinned (OpenSpec.ofChange fnExactDarkestCellWrong)

/-- 'laws.FnExactDryAll': WHATEVER THE INPUT: true; the input reads as it did. -/
def fnExactDryAllSpec : ChangeSpec := { name := "fnExactDryAll", fn := fun _ => fun
  | [d] => { results := [.lit (.bool true)], args := [d] }
  | _ => none }
def fnExactDryAllRow : OpenClaim := { program := "ytdcacbneoldnpaa", sum := "ae9c3943469ce0d91ce93acfe098001264fc214e4142d279d99d1471922f2ea4", func := "loop.example/g01360/laws.FnExactDryAll", spec := "fnExactDryAll", apart := false }
def FnExactDryAllSaid : Prop := fnExactDryAllRow.holds Try.pinned (OpenSpec.ofChange fnExactDryAllSpec)

/-- ITS FALSE NEIGHBOUR: 'it returns false'. Refute it at one input. -/
def fnExactDryAllWrong : ChangeSpec := { name := "fnExactDryAll", fn := fun _ => fun
  | [d] => { results := [.lit (.bool false)], args := [d] }
  | _ => none }
def FnExactDryAllWrongFalsely : Prop := fnExactDryAllRow.holds Try.pinned (OpenSpec.ofChange fnExactDryAllWrong)

/-- 'laws.FnExactWaxCell': WHATEVER THE INPUT: true; the input reads as it did. -/
def fnExactWaxCellSpec : ChangeSpec := { name := "fnExactWaxCell", fn := fun _ => fun
  | [d1, d2, d3] => { results := [.lit (.bool true)], args := [d1, d2, d3] }
  | _ => none }
def fnExactWaxCellRow : OpenClaim := { program := "ytdcacbneoldnpaa", sum := "ae9c3943469ce0d91ce93acfe098001264fc214e4142d279d99d1471922f2ea4", func := "loop.example/g01360/laws.FnExactWaxCell", spec := "fnExactWaxCell", apart := false }
def FnExactWaxCellSaid : Prop := fnExactWaxCellRow.holds Try.pinned (OpenSpec.ofChange fnExactWaxCellSpec)

/-- ITS FALSE NEIGHBOUR: 'it returns false'. Refute it at one input. -/
def fnExactWaxCellWrong : ChangeSpec := { name := "fnExactWaxCell", fn := fun _ => fun
  | [d1, d2, d3] => { results := [.lit (.bool false)], args := [d1, d2, d3] }
  | _ => none }
def FnExactWaxCellWrongFalsely : Prop := fnExactWaxCellRow.holds Try.pinned (OpenSpec.ofChange fnExactWaxCellWrong)

/-- 'laws.FnExactDropInk': WHATEVER THE INPUT: true; the input reads as it did. -/
def fnExactDropInkSpec : ChangeSpec := { name := "fnExactDropInk", fn := fun _ => fun
  | [d1, d2, d3, d4, d5] => { results := [.lit (.bool true)], args := [d1, d2, d3, d4, d5] }
  | _ => none }
def fnExactDropInkRow : OpenClaim := { program := "ytdcacbneoldnpaa", sum := "ae9c3943469ce0d91ce93acfe098001264fc214e4142d279d99d1471922f2ea4", func := "loop.example/g01360/laws.FnExactDropInk", spec := "fnExactDropInk", apart := false }
def FnExactDropInkSaid : Prop := fnExactDropInkRow.holds Try.pinned (OpenSpec.ofChange fnExactDropInkSpec)

/-- ITS FALSE NEIGHBOUR: 'it returns false'. Refute it at one input. -/
def fnExactDropInkWrong : ChangeSpec := { name := "fnExactDropInk", fn := fun _ => fun
  | [d1, d2, d3, d4, d5] => { results := [.lit (.bool false)], args := [d1, d2, d3, d4, d5] }
  | _ => none }
def FnExactDropInkWrongFalsely : Prop := fnExactDropInkRow.holds Try.pinned (OpenSpec.ofChange fnExactDropInkWrong)

/-- 'laws.FnExactSoakCell': WHATEVER THE INPUT: true; the input reads as it did. -/
def fnExactSoakCellSpec : ChangeSpec := { name := "fnExactSoakCell", fn := fun _ => fun
  | [d1, d2, d3] => { results := [.lit (.bool true)], args := [d1, d2, d3] }
  | _ => none }
def fnExactSoakCellRow : OpenClaim := { program := "ytdcacbneoldnpaa", sum := "ae9c3943469ce0d91ce93acfe098001264fc214e4142d279d99d1471922f2ea4", func := "loop.example/g01360/laws.FnExactSoakCell", spec := "fnExactSoakCell", apart := false }
def FnExactSoakCellSaid : Prop := fnExactSoakCellRow.holds Try.pinned (OpenSpec.ofChange fnExactSoakCellSpec)

/-- ITS FALSE NEIGHBOUR: 'it returns false'. Refute it at one input. -/
def fnExactSoakCellWrong : ChangeSpec := { name := "fnExactSoakCell", fn := fun _ => fun
  | [d1, d2, d3] => { results := [.lit (.bool false)], args := [d1, d2, d3] }
  | _ => none }
def FnExactSoakCellWrongFalsely : Prop := fnExactSoakCellRow.holds Try.pinned (OpenSpec.ofChange fnExactSoakCellWrong)

/-- 'laws.FnExactMirrorSheet': WHATEVER THE INPUT: true; the input reads as it did. -/
def fnExactMirrorSheetSpec : ChangeSpec := { name := "fnExactMirrorSheet", fn := fun _ => fun
  | [d] => { results := [.lit (.bool true)], args := [d] }
  | _ => none }
def fnExactMirrorSheetRow : OpenClaim := { program := "ytdcacbneoldnpaa", sum := "ae9c3943469ce0d91ce93acfe098001264fc214e4142d279d99d1471922f2ea4", func := "loop.example/g01360/laws.FnExactMirrorSheet", spec := "fnExactMirrorSheet", unfollowed := true, recurses := true, apart := false }
def FnExactMirrorSheetSaid : Prop := fnExactMirrorSheetRow.holds Try.pinned (OpenSpec.ofChange fnExactMirrorSheetSpec)

/-- ITS FALSE NEIGHBOUR: 'it returns false'. Refute it at one input. -/
def fnExactMirrorSheetWrong : ChangeSpec := { name := "fnExactMirrorSheet", fn := fun _ => fun
  | [d] => { results := [.lit (.bool false)], args := [d] }
  | _ => none }
def FnExactMirrorSheetWrongFalsely : Prop := fnExactMirrorSheetRow.holds Try.pinned (OpenSpec.ofChange fnExactMirrorSheetWrong)

/-- 'laws.FnExactTurnSheet': WHATEVER THE INPUT: true; the input reads as it did. -/
def fnExactTurnSheetSpec : ChangeSpec := { name := "fnExactTurnSheet", fn := fun _ => fun
  | [d] => { results := [.lit (.bool true)], args := [d] }
  | _ => none }
def fnExactTurnSheetRow : OpenClaim := { program := "ytdcacbneoldnpaa", sum := "ae9c3943469ce0d91ce93acfe098001264fc214e4142d279d99d1471922f2ea4", func := "loop.example/g01360/laws.FnExactTurnSheet", spec := "fnExactTurnSheet", unfollowed := true, recurses := true, apart := false }
def FnExactTurnSheetSaid : Prop := fnExactTurnSheetRow.holds Try.pinned (OpenSpec.ofChange fnExactTurnSheetSpec)

/-- ITS FALSE NEIGHBOUR: 'it returns false'. Refute it at one input. -/
def fnExactTurnSheetWrong : ChangeSpec := { name := "fnExactTurnSheet", fn := fun _ => fun
  | [d] => { results := [.lit (.bool false)], args := [d] }
  | _ => none }
def FnExactTurnSheetWrongFalsely : Prop := fnExactTurnSheetRow.holds Try.pinned (OpenSpec.ofChange fnExactTurnSheetWrong)

/-- 'laws.FnExactCutSheet': WHATEVER THE INPUT: true; the input reads as it did. -/
def fnExactCutSheetSpec : ChangeSpec := { name := "fnExactCutSheet", fn := fun _ => fun
  | [d1, d2, d3, d4] => { results := [.lit (.bool true)], args := [d1, d2, d3, d4] }
  | _ => none }
def fnExactCutSheetRow : OpenClaim := { program := "ytdcacbneoldnpaa", sum := "ae9c3943469ce0d91ce93acfe098001264fc214e4142d279d99d1471922f2ea4", func := "loop.example/g01360/laws.FnExactCutSheet", spec := "fnExactCutSheet", unfollowed := true, recurses := true, apart := false }
def FnExactCutSheetSaid : Prop := fnExactCutSheetRow.holds Try.pinned (OpenSpec.ofChange fnExactCutSheetSpec)

/-- ITS FALSE NEIGHBOUR: 'it returns false'. Refute it at one input. -/
def fnExactCutSheetWrong : ChangeSpec := { name := "fnExactCutSheet", fn := fun _ => fun
  | [d1, d2, d3, d4] => { results := [.lit (.bool false)], args := [d1, d2, d3, d4] }
  | _ => none }
def FnExactCutSheetWrongFalsely : Prop := fnExactCutSheetRow.holds Try.pinned (OpenSpec.ofChange fnExactCutSheetWrong)

/-- 'laws.FnExactHalfOf': WHATEVER THE INPUT: true; the input reads as it did. -/
def fnExactHalfOfSpec : ChangeSpec := { name := "fnExactHalfOf", fn := fun _ => fun
  | [d1, d2] => { results := [.lit (.bool true)], args := [d1, d2] }
  | _ => none }
def fnExactHalfOfRow : OpenClaim := { program := "ytdcacbneoldnpaa", sum := "ae9c3943469ce0d91ce93acfe098001264fc214e4142d279d99d1471922f2ea4", func := "loop.example/g01360/laws.FnExactHalfOf", spec := "fnExactHalfOf", unfollowed := true, recurses := true, apart := false }
def FnExactHalfOfSaid : Prop := fnExactHalfOfRow.holds Try.pinned (OpenSpec.ofChange fnExactHalfOfSpec)

/-- ITS FALSE NEIGHBOUR: 'it returns false'. Refute it at one input. -/
def fnExactHalfOfWrong : ChangeSpec := { name := "fnExactHalfOf", fn := fun _ => fun
  | [d1, d2] => { results := [.lit (.bool false)], args := [d1, d2] }
  | _ => none }
def FnExactHalfOfWrongFalsely : Prop := fnExactHalfOfRow.holds Try.pinned (OpenSpec.ofChange fnExactHalfOfWrong)

/-- 'laws.FnExactUnfoldHalf': WHATEVER THE INPUT: true; the input reads as it did. -/
def fnExactUnfoldHalfSpec : ChangeSpec := { name := "fnExactUnfoldHalf", fn := fun _ => fun
  | [d1, d2] => { results := [.lit (.bool true)], args := [d1, d2] }
  | _ => none }
def fnExactUnfoldHalfRow : OpenClaim := { program := "ytdcacbneoldnpaa", sum := "ae9c3943469ce0d91ce93acfe098001264fc214e4142d279d99d1471922f2ea4", func := "loop.example/g01360/laws.FnExactUnfoldHalf", spec := "fnExactUnfoldHalf", unfollowed := true, recurses := true, apart := false }
def FnExactUnfoldHalfSaid : Prop := fnExactUnfoldHalfRow.holds Try.pinned (OpenSpec.ofChange fnExactUnfoldHalfSpec)

/-- ITS FALSE NEIGHBOUR: 'it returns false'. Refute it at one input. -/
def fnExactUnfoldHalfWrong : ChangeSpec := { name := "fnExactUnfoldHalf", fn := fun _ => fun
  | [d1, d2] => { results := [.lit (.bool false)], args := [d1, d2] }
  | _ => none }
def FnExactUnfoldHalfWrongFalsely : Prop := fnExactUnfoldHalfRow.holds Try.pinned (OpenSpec.ofChange fnExactUnfoldHalfWrong)

/- THE SECOND FORM. 'bulk': how many values and letters a reading holds, each counted each time it is reached (what is shared counts as often as it is met; a slice's spare places count too). A statement '..UptoSaid' is the law's where the arguments, and the package variables that the reading takes, are together of bulk at most 1048576: NARROWER than '..Said'. Prove '..Said' where nothing that the law and all that it calls make is longer than what came in: it says more and counts as full. Else prove '..UptoSaid'. A law counts once. -/
mutual
def uptoBulk {H : Type} : DataW H → Nat
  | .lit (.string bytes) => bytes.length + 1
  | .lit _ => 1
  | .nil => 1
  | .ptr d => uptoBulk d + 1
  | .slice elems spare => uptoBulkAll elems + uptoBulkAll spare + 1
  | .agg parts => uptoBulkAll parts + 1
  | .iface _ d => uptoBulk d + 1
  | .map entries => uptoBulkEntries entries + 1
  | .held _ => 1
def uptoBulkAll {H : Type} : List (DataW H) → Nat
  | [] => 0
  | d :: r => uptoBulk d + uptoBulkAll r
def uptoBulkEntries {H : Type} : List (Lit × DataW H) → Nat
  | [] => 0
  | x :: r => uptoBulkEntry x + uptoBulkEntries r
def uptoBulkEntry {H : Type} : Lit × DataW H → Nat
  | (.string bytes, d) => bytes.length + uptoBulk d + 1
  | (_, d) => uptoBulk d + 1
 end
def uptoSmall : (H : Type) → List (DataW H) → Bool := fun _ ds => decide (uptoBulkAll ds ≤ 1048576)
def OpenSpec.upto (s : _root_.Go.ChangeSpec) : _root_.Go.OpenSpec := { _root_.Go.OpenSpec.ofChange s with cond := some uptoSmall }

/-- 'laws.FnExactColourAt', WHERE WHAT IT READS IS OF BULK AT MOST 1048576: true; the input reads as it did. -/
def fnExactColourAtUptoRow : OpenClaim := { program := "ytdcacbneoldnpaa", sum := "ae9c3943469ce0d91ce93acfe098001264fc214e4142d279d99d1471922f2ea4", func := "loop.example/g01360/laws.FnExactColourAt", spec := "fnExactColourAt", apart := false, narrowed := true }
def FnExactColourAtUptoSaid : Prop := fnExactColourAtUptoRow.holds Try.pinned (OpenSpec.upto fnExactColourAtSpec)

/-- 'laws.FnExactWettestCell', WHERE WHAT IT READS IS OF BULK AT MOST 1048576: true; the input reads as it did. -/
def fnExactWettestCellUptoRow : OpenClaim := { program := "ytdcacbneoldnpaa", sum := "ae9c3943469ce0d91ce93acfe098001264fc214e4142d279d99d1471922f2ea4", func := "loop.example/g01360/laws.FnExactWettestCell", spec := "fnExactWettestCell", unfollowed := true, recurses := true, apart := false, narrowed := true }
def FnExactWettestCellUptoSaid : Prop := fnExactWettestCellUptoRow.holds Try.pinned (OpenSpec.upto fnExactWettestCellSpec)

/-- 'laws.FnExactDarkestCell', WHERE WHAT IT READS IS OF BULK AT MOST 1048576: true; the input reads as it did. -/
def fnExactDarkestCellUptoRow : OpenClaim := { program := "ytdcacbneoldnpaa", sum := "ae9c3943469ce0d91ce93acfe098001264fc214e4142d279d99d1471922f2ea4", func := "loop.example/g01360/laws.FnExactDarkestCell", spec := "fnExactDarkestCell", unfollowed := true, recurses := true, apart := false, narrowed := true }
def FnExactDarkestCellUptoSaid : Prop := fnExactDarkestCellUptoRow.holds Try.pinned (OpenSpec.upto fnExactDarkestCellSpec)

/-- 'laws.FnExactDryAll', WHERE WHAT IT READS IS OF BULK AT MOST 1048576: true; the input reads as it did. -/
def fnExactDryAllUptoRow : OpenClaim := { program := "ytdcacbneoldnpaa", sum := "ae9c3943469ce0d91ce93acfe098001264fc214e4142d279d99d1471922f2ea4", func := "loop.example/g01360/laws.FnExactDryAll", spec := "fnExactDryAll", apart := false, narrowed := true }
def FnExactDryAllUptoSaid : Prop := fnExactDryAllUptoRow.holds Try.pinned (OpenSpec.upto fnExactDryAllSpec)

/-- 'laws.FnExactWaxCell', WHERE WHAT IT READS IS OF BULK AT MOST 1048576: true; the input reads as it did. -/
def fnExactWaxCellUptoRow : OpenClaim := { program := "ytdcacbneoldnpaa", sum := "ae9c3943469ce0d91ce93acfe098001264fc214e4142d279d99d1471922f2ea4", func := "loop.example/g01360/laws.FnExactWaxCell", spec := "fnExactWaxCell", apart := false, narrowed := true }
def FnExactWaxCellUptoSaid : Prop := fnExactWaxCellUptoRow.holds Try.pinned (OpenSpec.upto fnExactWaxCellSpec)

/-- 'laws.FnExactDropInk', WHERE WHAT IT READS IS OF BULK AT MOST 1048576: true; the input reads as it did. -/
def fnExactDropInkUptoRow : OpenClaim := { program := "ytdcacbneoldnpaa", sum := "ae9c3943469ce0d91ce93acfe098001264fc214e4142d279d99d1471922f2ea4", func := "loop.example/g01360/laws.FnExactDropInk", spec := "fnExactDropInk", apart := false, narrowed := true }
def FnExactDropInkUptoSaid : Prop := fnExactDropInkUptoRow.holds Try.pinned (OpenSpec.upto fnExactDropInkSpec)

/-- 'laws.FnExactSoakCell', WHERE WHAT IT READS IS OF BULK AT MOST 1048576: true; the input reads as it did. -/
def fnExactSoakCellUptoRow : OpenClaim := { program := "ytdcacbneoldnpaa", sum := "ae9c3943469ce0d91ce93acfe098001264fc214e4142d279d99d1471922f2ea4", func := "loop.example/g01360/laws.FnExactSoakCell", spec := "fnExactSoakCell", apart := false, narrowed := true }
def FnExactSoakCellUptoSaid : Prop := fnExactSoakCellUptoRow.holds Try.pinned (OpenSpec.upto fnExactSoakCellSpec)

/-- 'laws.FnExactMirrorSheet', WHERE WHAT IT READS IS OF BULK AT MOST 1048576: true; the input reads as it did. -/
def fnExactMirrorSheetUptoRow : OpenClaim := { program := "ytdcacbneoldnpaa", sum := "ae9c3943469ce0d91ce93acfe098001264fc214e4142d279d99d1471922f2ea4", func := "loop.example/g01360/laws.FnExactMirrorSheet", spec := "fnExactMirrorSheet", unfollowed := true, recurses := true, apart := false, narrowed := true }
def FnExactMirrorSheetUptoSaid : Prop := fnExactMirrorSheetUptoRow.holds Try.pinned (OpenSpec.upto fnExactMirrorSheetSpec)

/-- 'laws.FnExactTurnSheet', WHERE WHAT IT READS IS OF BULK AT MOST 1048576: true; the input reads as it did. -/
def fnExactTurnSheetUptoRow : OpenClaim := { program := "ytdcacbneoldnpaa", sum := "ae9c3943469ce0d91ce93acfe098001264fc214e4142d279d99d1471922f2ea4", func := "loop.example/g01360/laws.FnExactTurnSheet", spec := "fnExactTurnSheet", unfollowed := true, recurses := true, apart := false, narrowed := true }
def FnExactTurnSheetUptoSaid : Prop := fnExactTurnSheetUptoRow.holds Try.pinned (OpenSpec.upto fnExactTurnSheetSpec)

/-- 'laws.FnExactCutSheet', WHERE WHAT IT READS IS OF BULK AT MOST 1048576: true; the input reads as it did. -/
def fnExactCutSheetUptoRow : OpenClaim := { program := "ytdcacbneoldnpaa", sum := "ae9c3943469ce0d91ce93acfe098001264fc214e4142d279d99d1471922f2ea4", func := "loop.example/g01360/laws.FnExactCutSheet", spec := "fnExactCutSheet", unfollowed := true, recurses := true, apart := false, narrowed := true }
def FnExactCutSheetUptoSaid : Prop := fnExactCutSheetUptoRow.holds Try.pinned (OpenSpec.upto fnExactCutSheetSpec)

/-- 'laws.FnExactHalfOf', WHERE WHAT IT READS IS OF BULK AT MOST 1048576: true; the input reads as it did. -/
def fnExactHalfOfUptoRow : OpenClaim := { program := "ytdcacbneoldnpaa", sum := "ae9c3943469ce0d91ce93acfe098001264fc214e4142d279d99d1471922f2ea4", func := "loop.example/g01360/laws.FnExactHalfOf", spec := "fnExactHalfOf", unfollowed := true, recurses := true, apart := false, narrowed := true }
def FnExactHalfOfUptoSaid : Prop := fnExactHalfOfUptoRow.holds Try.pinned (OpenSpec.upto fnExactHalfOfSpec)

/-- 'laws.FnExactUnfoldHalf', WHERE WHAT IT READS IS OF BULK AT MOST 1048576: true; the input reads as it did. -/
def fnExactUnfoldHalfUptoRow : OpenClaim := { program := "ytdcacbneoldnpaa", sum := "ae9c3943469ce0d91ce93acfe098001264fc214e4142d279d99d1471922f2ea4", func := "loop.example/g01360/laws.FnExactUnfoldHalf", spec := "fnExactUnfoldHalf", unfollowed := true, recurses := true, apart := false, narrowed := true }
def FnExactUnfoldHalfUptoSaid : Prop := fnExactUnfoldHalfUptoRow.holds Try.pinned (OpenSpec.upto fnExactUnfoldHalfSpec)

end Rows
end Go.Proofs.Ytdcacbneoldnpaa
