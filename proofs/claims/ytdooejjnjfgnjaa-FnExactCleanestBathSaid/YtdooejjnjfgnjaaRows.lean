/-
  No cell of these rows narrows 'for every input' (looked for: loops, veiled, ifaces, maps, wideKeys, modest, calm, conditions, laid).
  DERIVED. THE GIVEN ROWS OF THIS SEAT. 12 by the template 'for every input the law returns true; each argument reads behind the call as it read before'; 0 by the template 'total and deterministic' (their statements: YtdooejjnjfgnjaaTotals.lean).
  GIVEN WITH THE SEED: the statements are not yours to turn. If you find one false, say at which input.
  Laid BY PROGRAM, IN A SANDBOX (cutbox-rows.mjs): the forced cells as the released guide's own fill.sh prints them over the translation 3bd737fdbf988c9c… (all of the seat's roots in one cut). By AI agents, Wed Nov 11 2026. No macro, syntax, notation, axiom, sorry.
-/
import Derived.Test.YtdooejjnjfgnjaaChecked
import GoSem.Claim
import GoSem.ClaimJoined
import GoSem.ClaimMapViews
import Derived.JoinedTies
import Derived.KernelRfl
namespace Go.Proofs.Ytdooejjnjfgnjaa
/- THE CELL 'sum', in the pinned program and in every row, IS THE sha256 OF THE DUMP (.gsa) THAT YtdooejjnjfgnjaaProg.lean LOADS. Nothing in Lean hashes anything: it is a label: what it is worth is what the hold of that sum in a sandbox is worth. -/
noncomputable def Try.pinned : Pinned := { name := "ytdooejjnjfgnjaa", sum := "3bd737fdbf988c9cfaa1e18e07139c548a1c7792e37e36b065a33494482fd6eb", checked := Try.checked }
namespace Rows
def none {H : Type} : Left H := { results := [], args := [] }

/-- 'laws.FnExactPartnerOf': WHATEVER THE INPUT: true; the input reads as it did. -/
def fnExactPartnerOfSpec : ChangeSpec := { name := "fnExactPartnerOf", fn := fun _ => fun
  | [d1, d2, d3] => { results := [.lit (.bool true)], args := [d1, d2, d3] }
  | _ => none }
def fnExactPartnerOfRow : OpenClaim := { program := "ytdooejjnjfgnjaa", sum := "3bd737fdbf988c9cfaa1e18e07139c548a1c7792e37e36b065a33494482fd6eb", func := "loop.example/g01360/laws.FnExactPartnerOf", spec := "fnExactPartnerOf", apart := false }
def FnExactPartnerOfSaid : Prop := fnExactPartnerOfRow.holds Try.pinned (OpenSpec.ofChange fnExactPartnerOfSpec)

/-- ITS FALSE NEIGHBOUR: 'it returns false'. Refute it at one input. -/
def fnExactPartnerOfWrong : ChangeSpec := { name := "fnExactPartnerOf", fn := fun _ => fun
  | [d1, d2, d3] => { results := [.lit (.bool false)], args := [d1, d2, d3] }
  | _ => none }
def FnExactPartnerOfWrongFalsely : Prop := fnExactPartnerOfRow.holds Try.pinned (OpenSpec.ofChange fnExactPartnerOfWrong)

/-- 'laws.FnExactLeaveAt': WHATEVER THE INPUT: true; the input reads as it did. -/
def fnExactLeaveAtSpec : ChangeSpec := { name := "fnExactLeaveAt", fn := fun _ => fun
  | [d1, d2, d3] => { results := [.lit (.bool true)], args := [d1, d2, d3] }
  | _ => none }
def fnExactLeaveAtRow : OpenClaim := { program := "ytdooejjnjfgnjaa", sum := "3bd737fdbf988c9cfaa1e18e07139c548a1c7792e37e36b065a33494482fd6eb", func := "loop.example/g01360/laws.FnExactLeaveAt", spec := "fnExactLeaveAt", apart := false }
def FnExactLeaveAtSaid : Prop := fnExactLeaveAtRow.holds Try.pinned (OpenSpec.ofChange fnExactLeaveAtSpec)

/-- ITS FALSE NEIGHBOUR: 'it returns false'. Refute it at one input. -/
def fnExactLeaveAtWrong : ChangeSpec := { name := "fnExactLeaveAt", fn := fun _ => fun
  | [d1, d2, d3] => { results := [.lit (.bool false)], args := [d1, d2, d3] }
  | _ => none }
def FnExactLeaveAtWrongFalsely : Prop := fnExactLeaveAtRow.holds Try.pinned (OpenSpec.ofChange fnExactLeaveAtWrong)

/-- 'laws.FnExactTouchCell': WHATEVER THE INPUT: true; the input reads as it did. -/
def fnExactTouchCellSpec : ChangeSpec := { name := "fnExactTouchCell", fn := fun _ => fun
  | [d1, d2, d3] => { results := [.lit (.bool true)], args := [d1, d2, d3] }
  | _ => none }
def fnExactTouchCellRow : OpenClaim := { program := "ytdooejjnjfgnjaa", sum := "3bd737fdbf988c9cfaa1e18e07139c548a1c7792e37e36b065a33494482fd6eb", func := "loop.example/g01360/laws.FnExactTouchCell", spec := "fnExactTouchCell", apart := false }
def FnExactTouchCellSaid : Prop := fnExactTouchCellRow.holds Try.pinned (OpenSpec.ofChange fnExactTouchCellSpec)

/-- ITS FALSE NEIGHBOUR: 'it returns false'. Refute it at one input. -/
def fnExactTouchCellWrong : ChangeSpec := { name := "fnExactTouchCell", fn := fun _ => fun
  | [d1, d2, d3] => { results := [.lit (.bool false)], args := [d1, d2, d3] }
  | _ => none }
def FnExactTouchCellWrongFalsely : Prop := fnExactTouchCellRow.holds Try.pinned (OpenSpec.ofChange fnExactTouchCellWrong)

/-- 'laws.FnExactRinseOnce': WHATEVER THE INPUT: true; the input reads as it did. -/
def fnExactRinseOnceSpec : ChangeSpec := { name := "fnExactRinseOnce", fn := fun _ => fun
  | [d1, d2] => { results := [.lit (.bool true)], args := [d1, d2] }
  | _ => none }
def fnExactRinseOnceRow : OpenClaim := { program := "ytdooejjnjfgnjaa", sum := "3bd737fdbf988c9cfaa1e18e07139c548a1c7792e37e36b065a33494482fd6eb", func := "loop.example/g01360/laws.FnExactRinseOnce", spec := "fnExactRinseOnce", apart := false }
def FnExactRinseOnceSaid : Prop := fnExactRinseOnceRow.holds Try.pinned (OpenSpec.ofChange fnExactRinseOnceSpec)

/-- ITS FALSE NEIGHBOUR: 'it returns false'. Refute it at one input. -/
def fnExactRinseOnceWrong : ChangeSpec := { name := "fnExactRinseOnce", fn := fun _ => fun
  | [d1, d2] => { results := [.lit (.bool false)], args := [d1, d2] }
  | _ => none }
def FnExactRinseOnceWrongFalsely : Prop := fnExactRinseOnceRow.holds Try.pinned (OpenSpec.ofChange fnExactRinseOnceWrong)

/-- 'laws.FnExactRinseUntil': WHATEVER THE INPUT: true; the input reads as it did. -/
def fnExactRinseUntilSpec : ChangeSpec := { name := "fnExactRinseUntil", fn := fun _ => fun
  | [d1, d2, d3] => { results := [.lit (.bool true)], args := [d1, d2, d3] }
  | _ => none }
def fnExactRinseUntilRow : OpenClaim := { program := "ytdooejjnjfgnjaa", sum := "3bd737fdbf988c9cfaa1e18e07139c548a1c7792e37e36b065a33494482fd6eb", func := "loop.example/g01360/laws.FnExactRinseUntil", spec := "fnExactRinseUntil", unfollowed := true, recurses := true, apart := false }
def FnExactRinseUntilSaid : Prop := fnExactRinseUntilRow.holds Try.pinned (OpenSpec.ofChange fnExactRinseUntilSpec)

/-- ITS FALSE NEIGHBOUR: 'it returns false'. Refute it at one input. -/
def fnExactRinseUntilWrong : ChangeSpec := { name := "fnExactRinseUntil", fn := fun _ => fun
  | [d1, d2, d3] => { results := [.lit (.bool false)], args := [d1, d2, d3] }
  | _ => none }
def FnExactRinseUntilWrongFalsely : Prop := fnExactRinseUntilRow.holds Try.pinned (OpenSpec.ofChange fnExactRinseUntilWrong)

/-- 'laws.FnExactOffBy': WHATEVER THE INPUT: true; the input reads as it did. -/
def fnExactOffBySpec : ChangeSpec := { name := "fnExactOffBy", fn := fun _ => fun
  | [d1, d2] => { results := [.lit (.bool true)], args := [d1, d2] }
  | _ => none }
def fnExactOffByRow : OpenClaim := { program := "ytdooejjnjfgnjaa", sum := "3bd737fdbf988c9cfaa1e18e07139c548a1c7792e37e36b065a33494482fd6eb", func := "loop.example/g01360/laws.FnExactOffBy", spec := "fnExactOffBy", apart := false }
def FnExactOffBySaid : Prop := fnExactOffByRow.holds Try.pinned (OpenSpec.ofChange fnExactOffBySpec)

/-- ITS FALSE NEIGHBOUR: 'it returns false'. Refute it at one input. -/
def fnExactOffByWrong : ChangeSpec := { name := "fnExactOffBy", fn := fun _ => fun
  | [d1, d2] => { results := [.lit (.bool false)], args := [d1, d2] }
  | _ => none }
def FnExactOffByWrongFalsely : Prop := fnExactOffByRow.holds Try.pinned (OpenSpec.ofChange fnExactOffByWrong)

/-- 'laws.FnExactIsMirror': WHATEVER THE INPUT: true; the input reads as it did. -/
def fnExactIsMirrorSpec : ChangeSpec := { name := "fnExactIsMirror", fn := fun _ => fun
  | [d1, d2] => { results := [.lit (.bool true)], args := [d1, d2] }
  | _ => none }
def fnExactIsMirrorRow : OpenClaim := { program := "ytdooejjnjfgnjaa", sum := "3bd737fdbf988c9cfaa1e18e07139c548a1c7792e37e36b065a33494482fd6eb", func := "loop.example/g01360/laws.FnExactIsMirror", spec := "fnExactIsMirror", apart := false }
def FnExactIsMirrorSaid : Prop := fnExactIsMirrorRow.holds Try.pinned (OpenSpec.ofChange fnExactIsMirrorSpec)

/-- ITS FALSE NEIGHBOUR: 'it returns false'. Refute it at one input. -/
def fnExactIsMirrorWrong : ChangeSpec := { name := "fnExactIsMirror", fn := fun _ => fun
  | [d1, d2] => { results := [.lit (.bool false)], args := [d1, d2] }
  | _ => none }
def FnExactIsMirrorWrongFalsely : Prop := fnExactIsMirrorRow.holds Try.pinned (OpenSpec.ofChange fnExactIsMirrorWrong)

/-- 'laws.FnExactCanBeFolded': WHATEVER THE INPUT: true; the input reads as it did. -/
def fnExactCanBeFoldedSpec : ChangeSpec := { name := "fnExactCanBeFolded", fn := fun _ => fun
  | [d1, d2] => { results := [.lit (.bool true)], args := [d1, d2] }
  | _ => none }
def fnExactCanBeFoldedRow : OpenClaim := { program := "ytdooejjnjfgnjaa", sum := "3bd737fdbf988c9cfaa1e18e07139c548a1c7792e37e36b065a33494482fd6eb", func := "loop.example/g01360/laws.FnExactCanBeFolded", spec := "fnExactCanBeFolded", unfollowed := true, recurses := true, apart := false }
def FnExactCanBeFoldedSaid : Prop := fnExactCanBeFoldedRow.holds Try.pinned (OpenSpec.ofChange fnExactCanBeFoldedSpec)

/-- ITS FALSE NEIGHBOUR: 'it returns false'. Refute it at one input. -/
def fnExactCanBeFoldedWrong : ChangeSpec := { name := "fnExactCanBeFolded", fn := fun _ => fun
  | [d1, d2] => { results := [.lit (.bool false)], args := [d1, d2] }
  | _ => none }
def FnExactCanBeFoldedWrongFalsely : Prop := fnExactCanBeFoldedRow.holds Try.pinned (OpenSpec.ofChange fnExactCanBeFoldedWrong)

/-- 'laws.FnExactBestFold': WHATEVER THE INPUT: true; the input reads as it did. -/
def fnExactBestFoldSpec : ChangeSpec := { name := "fnExactBestFold", fn := fun _ => fun
  | [d] => { results := [.lit (.bool true)], args := [d] }
  | _ => none }
def fnExactBestFoldRow : OpenClaim := { program := "ytdooejjnjfgnjaa", sum := "3bd737fdbf988c9cfaa1e18e07139c548a1c7792e37e36b065a33494482fd6eb", func := "loop.example/g01360/laws.FnExactBestFold", spec := "fnExactBestFold", apart := false }
def FnExactBestFoldSaid : Prop := fnExactBestFoldRow.holds Try.pinned (OpenSpec.ofChange fnExactBestFoldSpec)

/-- ITS FALSE NEIGHBOUR: 'it returns false'. Refute it at one input. -/
def fnExactBestFoldWrong : ChangeSpec := { name := "fnExactBestFold", fn := fun _ => fun
  | [d] => { results := [.lit (.bool false)], args := [d] }
  | _ => none }
def FnExactBestFoldWrongFalsely : Prop := fnExactBestFoldRow.holds Try.pinned (OpenSpec.ofChange fnExactBestFoldWrong)

/-- 'laws.FnExactEvenOut': WHATEVER THE INPUT: true; the input reads as it did. -/
def fnExactEvenOutSpec : ChangeSpec := { name := "fnExactEvenOut", fn := fun _ => fun
  | [d1, d2] => { results := [.lit (.bool true)], args := [d1, d2] }
  | _ => none }
def fnExactEvenOutRow : OpenClaim := { program := "ytdooejjnjfgnjaa", sum := "3bd737fdbf988c9cfaa1e18e07139c548a1c7792e37e36b065a33494482fd6eb", func := "loop.example/g01360/laws.FnExactEvenOut", spec := "fnExactEvenOut", apart := false }
def FnExactEvenOutSaid : Prop := fnExactEvenOutRow.holds Try.pinned (OpenSpec.ofChange fnExactEvenOutSpec)

/-- ITS FALSE NEIGHBOUR: 'it returns false'. Refute it at one input. -/
def fnExactEvenOutWrong : ChangeSpec := { name := "fnExactEvenOut", fn := fun _ => fun
  | [d1, d2] => { results := [.lit (.bool false)], args := [d1, d2] }
  | _ => none }
def FnExactEvenOutWrongFalsely : Prop := fnExactEvenOutRow.holds Try.pinned (OpenSpec.ofChange fnExactEvenOutWrong)

/-- 'laws.FnExactPressesUntil': WHATEVER THE INPUT: true; the input reads as it did. -/
def fnExactPressesUntilSpec : ChangeSpec := { name := "fnExactPressesUntil", fn := fun _ => fun
  | [d1, d2, d3] => { results := [.lit (.bool true)], args := [d1, d2, d3] }
  | _ => none }
def fnExactPressesUntilRow : OpenClaim := { program := "ytdooejjnjfgnjaa", sum := "3bd737fdbf988c9cfaa1e18e07139c548a1c7792e37e36b065a33494482fd6eb", func := "loop.example/g01360/laws.FnExactPressesUntil", spec := "fnExactPressesUntil", unfollowed := true, recurses := true, apart := false }
def FnExactPressesUntilSaid : Prop := fnExactPressesUntilRow.holds Try.pinned (OpenSpec.ofChange fnExactPressesUntilSpec)

/-- ITS FALSE NEIGHBOUR: 'it returns false'. Refute it at one input. -/
def fnExactPressesUntilWrong : ChangeSpec := { name := "fnExactPressesUntil", fn := fun _ => fun
  | [d1, d2, d3] => { results := [.lit (.bool false)], args := [d1, d2, d3] }
  | _ => none }
def FnExactPressesUntilWrongFalsely : Prop := fnExactPressesUntilRow.holds Try.pinned (OpenSpec.ofChange fnExactPressesUntilWrong)

/-- 'laws.FnExactCleanestBath': WHATEVER THE INPUT: true; the input reads as it did. -/
def fnExactCleanestBathSpec : ChangeSpec := { name := "fnExactCleanestBath", fn := fun _ => fun
  | [d1, d2, d3, d4] => { results := [.lit (.bool true)], args := [d1, d2, d3, d4] }
  | _ => none }
def fnExactCleanestBathRow : OpenClaim := { program := "ytdooejjnjfgnjaa", sum := "3bd737fdbf988c9cfaa1e18e07139c548a1c7792e37e36b065a33494482fd6eb", func := "loop.example/g01360/laws.FnExactCleanestBath", spec := "fnExactCleanestBath", apart := false }
def FnExactCleanestBathSaid : Prop := fnExactCleanestBathRow.holds Try.pinned (OpenSpec.ofChange fnExactCleanestBathSpec)

/-- ITS FALSE NEIGHBOUR: 'it returns false'. Refute it at one input. -/
def fnExactCleanestBathWrong : ChangeSpec := { name := "fnExactCleanestBath", fn := fun _ => fun
  | [d1, d2, d3, d4] => { results := [.lit (.bool false)], args := [d1, d2, d3, d4] }
  | _ => none }
def FnExactCleanestBathWrongFalsely : Prop := fnExactCleanestBathRow.holds Try.pinned (OpenSpec.ofChange fnExactCleanestBathWrong)

/- THE SECOND FORM. 'bulk': how many values and letters a reading holds, each counted each time it is reached (what is shared counts as often as it is met; a slice's spare places count too). A statement '..UptoSaid' is the law's where the arguments, and the package variables that the reading takes, are together of bulk at most 1048576: NARROWER than '..Said'. Prove '..Said' where nothing that the law and all that it calls make is longer than what came in: it says more and counts as full. Else prove '..UptoSaid'. A law counts once. -/
mutual
def uptoBulk {H : Type} : DataW H → Nat
  | .lit (.string bytes) => bytes.length + 1
  | .lit _ => 1
  | .nil => 1
  | .ptr d => uptoBulk d + 1
  | .slice elems spare => uptoBulkAll elems + uptoBulkAll spare + 1
  | .agg parts => uptoBulkAll parts + 1
  | .iface _ d => uptoBulk d + 1
  | .map entries => uptoBulkEntries entries + 1
  | .held _ => 1
def uptoBulkAll {H : Type} : List (DataW H) → Nat
  | [] => 0
  | d :: r => uptoBulk d + uptoBulkAll r
def uptoBulkEntries {H : Type} : List (Lit × DataW H) → Nat
  | [] => 0
  | x :: r => uptoBulkEntry x + uptoBulkEntries r
def uptoBulkEntry {H : Type} : Lit × DataW H → Nat
  | (.string bytes, d) => bytes.length + uptoBulk d + 1
  | (_, d) => uptoBulk d + 1
 end
def uptoSmall : (H : Type) → List (DataW H) → Bool := fun _ ds => decide (uptoBulkAll ds ≤ 1048576)
def OpenSpec.upto (s : _root_.Go.ChangeSpec) : _root_.Go.OpenSpec := { _root_.Go.OpenSpec.ofChange s with cond := some uptoSmall }

/-- 'laws.FnExactPartnerOf', WHERE WHAT IT READS IS OF BULK AT MOST 1048576: true; the input reads as it did. -/
def fnExactPartnerOfUptoRow : OpenClaim := { program := "ytdooejjnjfgnjaa", sum := "3bd737fdbf988c9cfaa1e18e07139c548a1c7792e37e36b065a33494482fd6eb", func := "loop.example/g01360/laws.FnExactPartnerOf", spec := "fnExactPartnerOf", apart := false, narrowed := true }
def FnExactPartnerOfUptoSaid : Prop := fnExactPartnerOfUptoRow.holds Try.pinned (OpenSpec.upto fnExactPartnerOfSpec)

/-- 'laws.FnExactLeaveAt', WHERE WHAT IT READS IS OF BULK AT MOST 1048576: true; the input reads as it did. -/
def fnExactLeaveAtUptoRow : OpenClaim := { program := "ytdooejjnjfgnjaa", sum := "3bd737fdbf988c9cfaa1e18e07139c548a1c7792e37e36b065a33494482fd6eb", func := "loop.example/g01360/laws.FnExactLeaveAt", spec := "fnExactLeaveAt", apart := false, narrowed := true }
def FnExactLeaveAtUptoSaid : Prop := fnExactLeaveAtUptoRow.holds Try.pinned (OpenSpec.upto fnExactLeaveAtSpec)

/-- 'laws.FnExactTouchCell', WHERE WHAT IT READS IS OF BULK AT MOST 1048576: true; the input reads as it did. -/
def fnExactTouchCellUptoRow : OpenClaim := { program := "ytdooejjnjfgnjaa", sum := "3bd737fdbf988c9cfaa1e18e07139c548a1c7792e37e36b065a33494482fd6eb", func := "loop.example/g01360/laws.FnExactTouchCell", spec := "fnExactTouchCell", apart := false, narrowed := true }
def FnExactTouchCellUptoSaid : Prop := fnExactTouchCellUptoRow.holds Try.pinned (OpenSpec.upto fnExactTouchCellSpec)

/-- 'laws.FnExactRinseOnce', WHERE WHAT IT READS IS OF BULK AT MOST 1048576: true; the input reads as it did. -/
def fnExactRinseOnceUptoRow : OpenClaim := { program := "ytdooejjnjfgnjaa", sum := "3bd737fdbf988c9cfaa1e18e07139c548a1c7792e37e36b065a33494482fd6eb", func := "loop.example/g01360/laws.FnExactRinseOnce", spec := "fnExactRinseOnce", apart := false, narrowed := true }
def FnExactRinseOnceUptoSaid : Prop := fnExactRinseOnceUptoRow.holds Try.pinned (OpenSpec.upto fnExactRinseOnceSpec)

/-- 'laws.FnExactRinseUntil', WHERE WHAT IT READS IS OF BULK AT MOST 1048576: true; the input reads as it did. -/
def fnExactRinseUntilUptoRow : OpenClaim := { program := "ytdooejjnjfgnjaa", sum := "3bd737fdbf988c9cfaa1e18e07139c548a1c7792e37e36b065a33494482fd6eb", func := "loop.example/g01360/laws.FnExactRinseUntil", spec := "fnExactRinseUntil", unfollowed := true, recurses := true, apart := false, narrowed := true }
def FnExactRinseUntilUptoSaid : Prop := fnExactRinseUntilUptoRow.holds Try.pinned (OpenSpec.upto fnExactRinseUntilSpec)

/-- 'laws.FnExactOffBy', WHERE WHAT IT READS IS OF BULK AT MOST 1048576: true; the input reads as it did. -/
def fnExactOffByUptoRow : OpenClaim := { program := "ytdooejjnjfgnjaa", sum := "3bd737fdbf988c9cfaa1e18e07139c548a1c7792e37e36b065a33494482fd6eb", func := "loop.example/g01360/laws.FnExactOffBy", spec := "fnExactOffBy", apart := false, narrowed := true }
def FnExactOffByUptoSaid : Prop := fnExactOffByUptoRow.holds Try.pinned (OpenSpec.upto fnExactOffBySpec)

/-- 'laws.FnExactIsMirror', WHERE WHAT IT READS IS OF BULK AT MOST 1048576: true; the input reads as it did. -/
def fnExactIsMirrorUptoRow : OpenClaim := { program := "ytdooejjnjfgnjaa", sum := "3bd737fdbf988c9cfaa1e18e07139c548a1c7792e37e36b065a33494482fd6eb", func := "loop.example/g01360/laws.FnExactIsMirror", spec := "fnExactIsMirror", apart := false, narrowed := true }
def FnExactIsMirrorUptoSaid : Prop := fnExactIsMirrorUptoRow.holds Try.pinned (OpenSpec.upto fnExactIsMirrorSpec)

/-- 'laws.FnExactCanBeFolded', WHERE WHAT IT READS IS OF BULK AT MOST 1048576: true; the input reads as it did. -/
def fnExactCanBeFoldedUptoRow : OpenClaim := { program := "ytdooejjnjfgnjaa", sum := "3bd737fdbf988c9cfaa1e18e07139c548a1c7792e37e36b065a33494482fd6eb", func := "loop.example/g01360/laws.FnExactCanBeFolded", spec := "fnExactCanBeFolded", unfollowed := true, recurses := true, apart := false, narrowed := true }
def FnExactCanBeFoldedUptoSaid : Prop := fnExactCanBeFoldedUptoRow.holds Try.pinned (OpenSpec.upto fnExactCanBeFoldedSpec)

/-- 'laws.FnExactBestFold', WHERE WHAT IT READS IS OF BULK AT MOST 1048576: true; the input reads as it did. -/
def fnExactBestFoldUptoRow : OpenClaim := { program := "ytdooejjnjfgnjaa", sum := "3bd737fdbf988c9cfaa1e18e07139c548a1c7792e37e36b065a33494482fd6eb", func := "loop.example/g01360/laws.FnExactBestFold", spec := "fnExactBestFold", apart := false, narrowed := true }
def FnExactBestFoldUptoSaid : Prop := fnExactBestFoldUptoRow.holds Try.pinned (OpenSpec.upto fnExactBestFoldSpec)

/-- 'laws.FnExactEvenOut', WHERE WHAT IT READS IS OF BULK AT MOST 1048576: true; the input reads as it did. -/
def fnExactEvenOutUptoRow : OpenClaim := { program := "ytdooejjnjfgnjaa", sum := "3bd737fdbf988c9cfaa1e18e07139c548a1c7792e37e36b065a33494482fd6eb", func := "loop.example/g01360/laws.FnExactEvenOut", spec := "fnExactEvenOut", apart := false, narrowed := true }
def FnExactEvenOutUptoSaid : Prop := fnExactEvenOutUptoRow.holds Try.pinned (OpenSpec.upto fnExactEvenOutSpec)

/-- 'laws.FnExactPressesUntil', WHERE WHAT IT READS IS OF BULK AT MOST 1048576: true; the input reads as it did. -/
def fnExactPressesUntilUptoRow : OpenClaim := { program := "ytdooejjnjfgnjaa", sum := "3bd737fdbf988c9cfaa1e18e07139c548a1c7792e37e36b065a33494482fd6eb", func := "loop.example/g01360/laws.FnExactPressesUntil", spec := "fnExactPressesUntil", unfollowed := true, recurses := true, apart := false, narrowed := true }
def FnExactPressesUntilUptoSaid : Prop := fnExactPressesUntilUptoRow.holds Try.pinned (OpenSpec.upto fnExactPressesUntilSpec)

/-- 'laws.FnExactCleanestBath', WHERE WHAT IT READS IS OF BULK AT MOST 1048576: true; the input reads as it did. -/
def fnExactCleanestBathUptoRow : OpenClaim := { program := "ytdooejjnjfgnjaa", sum := "3bd737fdbf988c9cfaa1e18e07139c548a1c7792e37e36b065a33494482fd6eb", func := "loop.example/g01360/laws.FnExactCleanestBath", spec := "fnExactCleanestBath", apart := false, narrowed := true }
def FnExactCleanestBathUptoSaid : Prop := fnExactCleanestBathUptoRow.holds Try.pinned (OpenSpec.upto fnExactCleanestBathSpec)

end Rows
end Go.Proofs.Ytdooejjnjfgnjaa
