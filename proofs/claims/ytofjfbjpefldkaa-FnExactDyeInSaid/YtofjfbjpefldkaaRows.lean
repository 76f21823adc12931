/-
  No cell of these rows narrows 'for every input' (looked for: loops, veiled, ifaces, maps, wideKeys, modest, calm, conditions, laid).
  DERIVED. THE GIVEN ROWS OF THIS SEAT. 12 by the template 'for every input the law returns true; each argument reads behind the call as it read before'; 0 by the template 'total and deterministic' (their statements: YtofjfbjpefldkaaTotals.lean).
  GIVEN WITH THE SEED: the statements are not yours to turn. If you find one false, say at which input.
  Laid BY PROGRAM, IN A SANDBOX (cutbox-rows.mjs): the forced cells as the released guide's own fill.sh prints them over the translation 9aa00f4508806ff9… (all of the seat's roots in one cut). By AI agents, Wed Nov 11 2026. No macro, syntax, notation, axiom, sorry.
-/
import Derived.Test.YtofjfbjpefldkaaChecked
import GoSem.Claim
import GoSem.ClaimJoined
import GoSem.ClaimMapViews
import Derived.JoinedTies
import Derived.KernelRfl
namespace Go.Proofs.Ytofjfbjpefldkaa
/- THE CELL 'sum', in the pinned program and in every row, IS THE sha256 OF THE DUMP (.gsa) THAT YtofjfbjpefldkaaProg.lean LOADS. Nothing in Lean hashes anything: it is a label: what it is worth is what the hold of that sum in a sandbox is worth. -/
noncomputable def Try.pinned : Pinned := { name := "ytofjfbjpefldkaa", sum := "9aa00f4508806ff92a8b6169b9c563dc633d8d3a2caf66da6b90929201d39e61", checked := Try.checked }
namespace Rows
def none {H : Type} : Left H := { results := [], args := [] }

/-- 'laws.FnExactPictureText': WHATEVER THE INPUT: true; the input reads as it did. -/
def fnExactPictureTextSpec : ChangeSpec := { name := "fnExactPictureText", fn := fun _ => fun
  | [d] => { results := [.lit (.bool true)], args := [d] }
  | _ => none }
def fnExactPictureTextRow : OpenClaim := { program := "ytofjfbjpefldkaa", sum := "9aa00f4508806ff92a8b6169b9c563dc633d8d3a2caf66da6b90929201d39e61", func := "loop.example/g01360/laws.FnExactPictureText", spec := "fnExactPictureText", inPlace := ["internal/abi.NoEscape", "internal/bytealg.MakeNoZero"], unfollowed := true, recurses := true, apart := false }
def FnExactPictureTextSaid : Prop := fnExactPictureTextRow.holds Try.pinned (OpenSpec.ofChange fnExactPictureTextSpec)

/-- ITS FALSE NEIGHBOUR: 'it returns false'. Refute it at one input. -/
def fnExactPictureTextWrong : ChangeSpec := { name := "fnExactPictureText", fn := fun _ => fun
  | [d] => { results := [.lit (.bool false)], args := [d] }
  | _ => none }
def FnExactPictureTextWrongFalsely : Prop := fnExactPictureTextRow.holds Try.pinned (OpenSpec.ofChange fnExactPictureTextWrong)

/-- 'laws.FnExactDyeIn': WHATEVER THE INPUT: true; the input reads as it did. -/
def fnExactDyeInSpec : ChangeSpec := { name := "fnExactDyeIn", fn := fun _ => fun
  | [d] => { results := [.lit (.bool true)], args := [d] }
  | _ => none }
def fnExactDyeInRow : OpenClaim := { program := "ytofjfbjpefldkaa", sum := "9aa00f4508806ff92a8b6169b9c563dc633d8d3a2caf66da6b90929201d39e61", func := "loop.example/g01360/laws.FnExactDyeIn", spec := "fnExactDyeIn", apart := false }
def FnExactDyeInSaid : Prop := fnExactDyeInRow.holds Try.pinned (OpenSpec.ofChange fnExactDyeInSpec)

/-- ITS FALSE NEIGHBOUR: 'it returns false'. Refute it at one input. -/
def fnExactDyeInWrong : ChangeSpec := { name := "fnExactDyeIn", fn := fun _ => fun
  | [d] => { results := [.lit (.bool false)], args := [d] }
  | _ => none }
def FnExactDyeInWrongFalsely : Prop := fnExactDyeInRow.holds Try.pinned (OpenSpec.ofChange fnExactDyeInWrong)

/-- 'laws.FnExactWettestCell': WHATEVER THE INPUT: true; the input reads as it did. -/
def fnExactWettestCellSpec : ChangeSpec := { name := "fnExactWettestCell", fn := fun _ => fun
  | [d] => { results := [.lit (.bool true)], args := [d] }
  | _ => none }
def fnExactWettestCellRow : OpenClaim := { program := "ytofjfbjpefldkaa", sum := "9aa00f4508806ff92a8b6169b9c563dc633d8d3a2caf66da6b90929201d39e61", func := "loop.example/g01360/laws.FnExactWettestCell", spec := "fnExactWettestCell", unfollowed := true, recurses := true, apart := false }
def FnExactWettestCellSaid : Prop := fnExactWettestCellRow.holds Try.pinned (OpenSpec.ofChange fnExactWettestCellSpec)

/-- ITS FALSE NEIGHBOUR: 'it returns false'. Refute it at one input. -/
def fnExactWettestCellWrong : ChangeSpec := { name := "fnExactWettestCell", fn := fun _ => fun
  | [d] => { results := [.lit (.bool false)], args := [d] }
  | _ => none }
def FnExactWettestCellWrongFalsely : Prop := fnExactWettestCellRow.holds Try.pinned (OpenSpec.ofChange fnExactWettestCellWrong)

/-- 'laws.FnExactColourAt': WHATEVER THE INPUT: true; the input reads as it did. -/
def fnExactColourAtSpec : ChangeSpec := { name := "fnExactColourAt", fn := fun _ => fun
  | [d1, d2] => { results := [.lit (.bool true)], args := [d1, d2] }
  | _ => none }
def fnExactColourAtRow : OpenClaim := { program := "ytofjfbjpefldkaa", sum := "9aa00f4508806ff92a8b6169b9c563dc633d8d3a2caf66da6b90929201d39e61", func := "loop.example/g01360/laws.FnExactColourAt", spec := "fnExactColourAt", apart := false }
def FnExactColourAtSaid : Prop := fnExactColourAtRow.holds Try.pinned (OpenSpec.ofChange fnExactColourAtSpec)

/-- ITS FALSE NEIGHBOUR: 'it returns false'. Refute it at one input. -/
def fnExactColourAtWrong : ChangeSpec := { name := "fnExactColourAt", fn := fun _ => fun
  | [d1, d2] => { results := [.lit (.bool false)], args := [d1, d2] }
  | _ => none }
def FnExactColourAtWrongFalsely : Prop := fnExactColourAtRow.holds Try.pinned (OpenSpec.ofChange fnExactColourAtWrong)

/-- 'laws.FnExactDarkestCell': WHATEVER THE INPUT: true; the input reads as it did. -/
def fnExactDarkestCellSpec : ChangeSpec := { name := "fnExactDarkestCell", fn := fun _ => fun
  | [d] => { results := [.lit (.bool true)], args := [d] }
  | _ => none }
def fnExactDarkestCellRow : OpenClaim := { program := "ytofjfbjpefldkaa", sum := "9aa00f4508806ff92a8b6169b9c563dc633d8d3a2caf66da6b90929201d39e61", func := "loop.example/g01360/laws.FnExactDarkestCell", spec := "fnExactDarkestCell", unfollowed := true, recurses := true, apart := false }
def FnExactDarkestCellSaid : Prop := fnExactDarkestCellRow.holds Try.pinned (OpenSpec.ofChange fnExactDarkestCellSpec)

/-- ITS FALSE NEIGHBOUR: 'it returns false'. Refute it at one input. -/
def fnExactDarkestCellWrong : ChangeSpec := { name := "fnExactDarkestCell", fn := fun _ => fun
  | [d] => { results := [.lit (.bool false)], args := [d] }
  | _ => none }
def FnExactDarkestCellWrongFalsely : Prop := fnExactDarkestCellRow.holds Try.pinned (OpenSpec.ofChange fnExactDarkestCellWrong)

/-- 'laws.FnExactFoldsOf': WHATEVER THE INPUT: true; the input reads as it did. -/
def fnExactFoldsOfSpec : ChangeSpec := { name := "fnExactFoldsOf", fn := fun _ => fun
  | [d] => { results := [.lit (.bool true)], args := [d] }
  | _ => none }
def fnExactFoldsOfRow : OpenClaim := { program := "ytofjfbjpefldkaa", sum := "9aa00f4508806ff92a8b6169b9c563dc633d8d3a2caf66da6b90929201d39e61", func := "loop.example/g01360/laws.FnExactFoldsOf", spec := "fnExactFoldsOf", apart := false }
def FnExactFoldsOfSaid : Prop := fnExactFoldsOfRow.holds Try.pinned (OpenSpec.ofChange fnExactFoldsOfSpec)

/-- ITS FALSE NEIGHBOUR: 'it returns false'. Refute it at one input. -/
def fnExactFoldsOfWrong : ChangeSpec := { name := "fnExactFoldsOf", fn := fun _ => fun
  | [d] => { results := [.lit (.bool false)], args := [d] }
  | _ => none }
def FnExactFoldsOfWrongFalsely : Prop := fnExactFoldsOfRow.holds Try.pinned (OpenSpec.ofChange fnExactFoldsOfWrong)

/-- 'laws.FnExactPressesUntil': WHATEVER THE INPUT: true; the input reads as it did. -/
def fnExactPressesUntilSpec : ChangeSpec := { name := "fnExactPressesUntil", fn := fun _ => fun
  | [d1, d2, d3] => { results := [.lit (.bool true)], args := [d1, d2, d3] }
  | _ => none }
def fnExactPressesUntilRow : OpenClaim := { program := "ytofjfbjpefldkaa", sum := "9aa00f4508806ff92a8b6169b9c563dc633d8d3a2caf66da6b90929201d39e61", func := "loop.example/g01360/laws.FnExactPressesUntil", spec := "fnExactPressesUntil", unfollowed := true, recurses := true, apart := false }
def FnExactPressesUntilSaid : Prop := fnExactPressesUntilRow.holds Try.pinned (OpenSpec.ofChange fnExactPressesUntilSpec)

/-- ITS FALSE NEIGHBOUR: 'it returns false'. Refute it at one input. -/
def fnExactPressesUntilWrong : ChangeSpec := { name := "fnExactPressesUntil", fn := fun _ => fun
  | [d1, d2, d3] => { results := [.lit (.bool false)], args := [d1, d2, d3] }
  | _ => none }
def FnExactPressesUntilWrongFalsely : Prop := fnExactPressesUntilRow.holds Try.pinned (OpenSpec.ofChange fnExactPressesUntilWrong)

/-- 'laws.FnExactPartnerOf': WHATEVER THE INPUT: true; the input reads as it did. -/
def fnExactPartnerOfSpec : ChangeSpec := { name := "fnExactPartnerOf", fn := fun _ => fun
  | [d1, d2, d3] => { results := [.lit (.bool true)], args := [d1, d2, d3] }
  | _ => none }
def fnExactPartnerOfRow : OpenClaim := { program := "ytofjfbjpefldkaa", sum := "9aa00f4508806ff92a8b6169b9c563dc633d8d3a2caf66da6b90929201d39e61", func := "loop.example/g01360/laws.FnExactPartnerOf", spec := "fnExactPartnerOf", apart := false }
def FnExactPartnerOfSaid : Prop := fnExactPartnerOfRow.holds Try.pinned (OpenSpec.ofChange fnExactPartnerOfSpec)

/-- ITS FALSE NEIGHBOUR: 'it returns false'. Refute it at one input. -/
def fnExactPartnerOfWrong : ChangeSpec := { name := "fnExactPartnerOf", fn := fun _ => fun
  | [d1, d2, d3] => { results := [.lit (.bool false)], args := [d1, d2, d3] }
  | _ => none }
def FnExactPartnerOfWrongFalsely : Prop := fnExactPartnerOfRow.holds Try.pinned (OpenSpec.ofChange fnExactPartnerOfWrong)

/-- 'laws.FnExactCleanestBath': WHATEVER THE INPUT: true; the input reads as it did. -/
def fnExactCleanestBathSpec : ChangeSpec := { name := "fnExactCleanestBath", fn := fun _ => fun
  | [d1, d2, d3, d4] => { results := [.lit (.bool true)], args := [d1, d2, d3, d4] }
  | _ => none }
def fnExactCleanestBathRow : OpenClaim := { program := "ytofjfbjpefldkaa", sum := "9aa00f4508806ff92a8b6169b9c563dc633d8d3a2caf66da6b90929201d39e61", func := "loop.example/g01360/laws.FnExactCleanestBath", spec := "fnExactCleanestBath", apart := false }
def FnExactCleanestBathSaid : Prop := fnExactCleanestBathRow.holds Try.pinned (OpenSpec.ofChange fnExactCleanestBathSpec)

/-- ITS FALSE NEIGHBOUR: 'it returns false'. Refute it at one input. -/
def fnExactCleanestBathWrong : ChangeSpec := { name := "fnExactCleanestBath", fn := fun _ => fun
  | [d1, d2, d3, d4] => { results := [.lit (.bool false)], args := [d1, d2, d3, d4] }
  | _ => none }
def FnExactCleanestBathWrongFalsely : Prop := fnExactCleanestBathRow.holds Try.pinned (OpenSpec.ofChange fnExactCleanestBathWrong)

/-- 'laws.FnExactLeaveAt': WHATEVER THE INPUT: true; the input reads as it did. -/
def fnExactLeaveAtSpec : ChangeSpec := { name := "fnExactLeaveAt", fn := fun _ => fun
  | [d1, d2, d3] => { results := [.lit (.bool true)], args := [d1, d2, d3] }
  | _ => none }
def fnExactLeaveAtRow : OpenClaim := { program := "ytofjfbjpefldkaa", sum := "9aa00f4508806ff92a8b6169b9c563dc633d8d3a2caf66da6b90929201d39e61", func := "loop.example/g01360/laws.FnExactLeaveAt", spec := "fnExactLeaveAt", apart := false }
def FnExactLeaveAtSaid : Prop := fnExactLeaveAtRow.holds Try.pinned (OpenSpec.ofChange fnExactLeaveAtSpec)

/-- ITS FALSE NEIGHBOUR: 'it returns false'. Refute it at one input. -/
def fnExactLeaveAtWrong : ChangeSpec := { name := "fnExactLeaveAt", fn := fun _ => fun
  | [d1, d2, d3] => { results := [.lit (.bool false)], args := [d1, d2, d3] }
  | _ => none }
def FnExactLeaveAtWrongFalsely : Prop := fnExactLeaveAtRow.holds Try.pinned (OpenSpec.ofChange fnExactLeaveAtWrong)

/-- 'laws.FnExactDryAll': WHATEVER THE INPUT: true; the input reads as it did. -/
def fnExactDryAllSpec : ChangeSpec := { name := "fnExactDryAll", fn := fun _ => fun
  | [d] => { results := [.lit (.bool true)], args := [d] }
  | _ => none }
def fnExactDryAllRow : OpenClaim := { program := "ytofjfbjpefldkaa", sum := "9aa00f4508806ff92a8b6169b9c563dc633d8d3a2caf66da6b90929201d39e61", func := "loop.example/g01360/laws.FnExactDryAll", spec := "fnExactDryAll", apart := false }
def FnExactDryAllSaid : Prop := fnExactDryAllRow.holds Try.pinned (OpenSpec.ofChange fnExactDryAllSpec)

/-- ITS FALSE NEIGHBOUR: 'it returns false'. Refute it at one input. -/
def fnExactDryAllWrong : ChangeSpec := { name := "fnExactDryAll", fn := fun _ => fun
  | [d] => { results := [.lit (.bool false)], args := [d] }
  | _ => none }
def FnExactDryAllWrongFalsely : Prop := fnExactDryAllRow.holds Try.pinned (OpenSpec.ofChange fnExactDryAllWrong)

/-- 'laws.FnExactBathsFor': WHATEVER THE INPUT: true; the input reads as it did. -/
def fnExactBathsForSpec : ChangeSpec := { name := "fnExactBathsFor", fn := fun _ => fun
  | [d1, d2, d3] => { results := [.lit (.bool true)], args := [d1, d2, d3] }
  | _ => none }
def fnExactBathsForRow : OpenClaim := { program := "ytofjfbjpefldkaa", sum := "9aa00f4508806ff92a8b6169b9c563dc633d8d3a2caf66da6b90929201d39e61", func := "loop.example/g01360/laws.FnExactBathsFor", spec := "fnExactBathsFor", apart := false }
def FnExactBathsForSaid : Prop := fnExactBathsForRow.holds Try.pinned (OpenSpec.ofChange fnExactBathsForSpec)

/-- ITS FALSE NEIGHBOUR: 'it returns false'. Refute it at one input. -/
def fnExactBathsForWrong : ChangeSpec := { name := "fnExactBathsFor", fn := fun _ => fun
  | [d1, d2, d3] => { results := [.lit (.bool false)], args := [d1, d2, d3] }
  | _ => none }
def FnExactBathsForWrongFalsely : Prop := fnExactBathsForRow.holds Try.pinned (OpenSpec.ofChange fnExactBathsForWrong)

/- THE SECOND FORM. 'bulk': how many values and letters a reading holds, each counted each time it is reached (what is shared counts as often as it is met; a slice's spare places count too). A statement '..UptoSaid' is the law's where the arguments, and the package variables that the reading takes, are together of bulk at most 1048576: NARROWER than '..Said'. Prove '..Said' where nothing that the law and all that it calls make is longer than what came in: it says more and counts as full. Else prove '..UptoSaid'. A law counts once. -/
mutual
def uptoBulk {H : Type} : DataW H → Nat
  | .lit (.string bytes) => bytes.length + 1
  | .lit _ => 1
  | .nil => 1
  | .ptr d => uptoBulk d + 1
  | .slice elems spare => uptoBulkAll elems + uptoBulkAll spare + 1
  | .agg parts => uptoBulkAll parts + 1
  | .iface _ d => uptoBulk d + 1
  | .map entries => uptoBulkEntries entries + 1
  | .held _ => 1
def uptoBulkAll {H : Type} : List (DataW H) → Nat
  | [] => 0
  | d :: r => uptoBulk d + uptoBulkAll r
def uptoBulkEntries {H : Type} : List (Lit × DataW H) → Nat
  | [] => 0
  | x :: r => uptoBulkEntry x + uptoBulkEntries r
def uptoBulkEntry {H : Type} : Lit × DataW H → Nat
  | (.string bytes, d) => bytes.length + uptoBulk d + 1
  | (_, d) => uptoBulk d + 1
 end
def uptoSmall : (H : Type) → List (DataW H) → Bool := fun _ ds => decide (uptoBulkAll ds ≤ 1048576)
def OpenSpec.upto (s : _root_.Go.ChangeSpec) : _root_.Go.OpenSpec := { _root_.Go.OpenSpec.ofChange s with cond := some uptoSmall }

/-- 'laws.FnExactPictureText', WHERE WHAT IT READS IS OF BULK AT MOST 1048576: true; the input reads as it did. -/
def fnExactPictureTextUptoRow : OpenClaim := { program := "ytofjfbjpefldkaa", sum := "9aa00f4508806ff92a8b6169b9c563dc633d8d3a2caf66da6b90929201d39e61", func := "loop.example/g01360/laws.FnExactPictureText", spec := "fnExactPictureText", inPlace := ["internal/abi.NoEscape", "internal/bytealg.MakeNoZero"], unfollowed := true, recurses := true, apart := false, narrowed := true }
def FnExactPictureTextUptoSaid : Prop := fnExactPictureTextUptoRow.holds Try.pinned (OpenSpec.upto fnExactPictureTextSpec)

/-- 'laws.FnExactDyeIn', WHERE WHAT IT READS IS OF BULK AT MOST 1048576: true; the input reads as it did. -/
def fnExactDyeInUptoRow : OpenClaim := { program := "ytofjfbjpefldkaa", sum := "9aa00f4508806ff92a8b6169b9c563dc633d8d3a2caf66da6b90929201d39e61", func := "loop.example/g01360/laws.FnExactDyeIn", spec := "fnExactDyeIn", apart := false, narrowed := true }
def FnExactDyeInUptoSaid : Prop := fnExactDyeInUptoRow.holds Try.pinned (OpenSpec.upto fnExactDyeInSpec)

/-- 'laws.FnExactWettestCell', WHERE WHAT IT READS IS OF BULK AT MOST 1048576: true; the input reads as it did. -/
def fnExactWettestCellUptoRow : OpenClaim := { program := "ytofjfbjpefldkaa", sum := "9aa00f4508806ff92a8b6169b9c563dc633d8d3a2caf66da6b90929201d39e61", func := "loop.example/g01360/laws.FnExactWettestCell", spec := "fnExactWettestCell", unfollowed := true, recurses := true, apart := false, narrowed := true }
def FnExactWettestCellUptoSaid : Prop := fnExactWettestCellUptoRow.holds Try.pinned (OpenSpec.upto fnExactWettestCellSpec)

/-- 'laws.FnExactColourAt', WHERE WHAT IT READS IS OF BULK AT MOST 1048576: true; the input reads as it did. -/
def fnExactColourAtUptoRow : OpenClaim := { program := "ytofjfbjpefldkaa", sum := "9aa00f4508806ff92a8b6169b9c563dc633d8d3a2caf66da6b90929201d39e61", func := "loop.example/g01360/laws.FnExactColourAt", spec := "fnExactColourAt", apart := false, narrowed := true }
def FnExactColourAtUptoSaid : Prop := fnExactColourAtUptoRow.holds Try.pinned (OpenSpec.upto fnExactColourAtSpec)

/-- 'laws.FnExactDarkestCell', WHERE WHAT IT READS IS OF BULK AT MOST 1048576: true; the input reads as it did. -/
def fnExactDarkestCellUptoRow : OpenClaim := { program := "ytofjfbjpefldkaa", sum := "9aa00f4508806ff92a8b6169b9c563dc633d8d3a2caf66da6b90929201d39e61", func := "loop.example/g01360/laws.FnExactDarkestCell", spec := "fnExactDarkestCell", unfollowed := true, recurses := true, apart := false, narrowed := true }
def FnExactDarkestCellUptoSaid : Prop := fnExactDarkestCellUptoRow.holds Try.pinned (OpenSpec.upto fnExactDarkestCellSpec)

/-- 'laws.FnExactFoldsOf', WHERE WHAT IT READS IS OF BULK AT MOST 1048576: true; the input reads as it did. -/
def fnExactFoldsOfUptoRow : OpenClaim := { program := "ytofjfbjpefldkaa", sum := "9aa00f4508806ff92a8b6169b9c563dc633d8d3a2caf66da6b90929201d39e61", func := "loop.example/g01360/laws.FnExactFoldsOf", spec := "fnExactFoldsOf", apart := false, narrowed := true }
def FnExactFoldsOfUptoSaid : Prop := fnExactFoldsOfUptoRow.holds Try.pinned (OpenSpec.upto fnExactFoldsOfSpec)

/-- 'laws.FnExactPressesUntil', WHERE WHAT IT READS IS OF BULK AT MOST 1048576: true; the input reads as it did. -/
def fnExactPressesUntilUptoRow : OpenClaim := { program := "ytofjfbjpefldkaa", sum := "9aa00f4508806ff92a8b6169b9c563dc633d8d3a2caf66da6b90929201d39e61", func := "loop.example/g01360/laws.FnExactPressesUntil", spec := "fnExactPressesUntil", unfollowed := true, recurses := true, apart := false, narrowed := true }
def FnExactPressesUntilUptoSaid : Prop := fnExactPressesUntilUptoRow.holds Try.pinned (OpenSpec.upto fnExactPressesUntilSpec)

/-- 'laws.FnExactPartnerOf', WHERE WHAT IT READS IS OF BULK AT MOST 1048576: true; the input reads as it did. -/
def fnExactPartnerOfUptoRow : OpenClaim := { program := "ytofjfbjpefldkaa", sum := "9aa00f4508806ff92a8b6169b9c563dc633d8d3a2caf66da6b90929201d39e61", func := "loop.example/g01360/laws.FnExactPartnerOf", spec := "fnExactPartnerOf", apart := false, narrowed := true }
def FnExactPartnerOfUptoSaid : Prop := fnExactPartnerOfUptoRow.holds Try.pinned (OpenSpec.upto fnExactPartnerOfSpec)

/-- 'laws.FnExactCleanestBath', WHERE WHAT IT READS IS OF BULK AT MOST 1048576: true; the input reads as it did. -/
def fnExactCleanestBathUptoRow : OpenClaim := { program := "ytofjfbjpefldkaa", sum := "9aa00f4508806ff92a8b6169b9c563dc633d8d3a2caf66da6b90929201d39e61", func := "loop.example/g01360/laws.FnExactCleanestBath", spec := "fnExactCleanestBath", apart := false, narrowed := true }
def FnExactCleanestBathUptoSaid : Prop := fnExactCleanestBathUptoRow.holds Try.pinned (OpenSpec.upto fnExactCleanestBathSpec)

/-- 'laws.FnExactLeaveAt', WHERE WHAT IT READS IS OF BULK AT MOST 1048576: true; the input reads as it did. -/
def fnExactLeaveAtUptoRow : OpenClaim := { program := "ytofjfbjpefldkaa", sum := "9aa00f4508806ff92a8b6169b9c563dc633d8d3a2caf66da6b90929201d39e61", func := "loop.example/g01360/laws.FnExactLeaveAt", spec := "fnExactLeaveAt", apart := false, narrowed := true }
def FnExactLeaveAtUptoSaid : Prop := fnExactLeaveAtUptoRow.holds Try.pinned (OpenSpec.upto fnExactLeaveAtSpec)

/-- 'laws.FnExactDryAll', WHERE WHAT IT READS IS OF BULK AT MOST 1048576: true; the input reads as it did. -/
def fnExactDryAllUptoRow : OpenClaim := { program := "ytofjfbjpefldkaa", sum := "9aa00f4508806ff92a8b6169b9c563dc633d8d3a2caf66da6b90929201d39e61", func := "loop.example/g01360/laws.FnExactDryAll", spec := "fnExactDryAll", apart := false, narrowed := true }
def FnExactDryAllUptoSaid : Prop := fnExactDryAllUptoRow.holds Try.pinned (OpenSpec.upto fnExactDryAllSpec)

/-- 'laws.FnExactBathsFor', WHERE WHAT IT READS IS OF BULK AT MOST 1048576: true; the input reads as it did. -/
def fnExactBathsForUptoRow : OpenClaim := { program := "ytofjfbjpefldkaa", sum := "9aa00f4508806ff92a8b6169b9c563dc633d8d3a2caf66da6b90929201d39e61", func := "loop.example/g01360/laws.FnExactBathsFor", spec := "fnExactBathsFor", apart := false, narrowed := true }
def FnExactBathsForUptoSaid : Prop := fnExactBathsForUptoRow.holds Try.pinned (OpenSpec.upto fnExactBathsForSpec)

end Rows
end Go.Proofs.Ytofjfbjpefldkaa
