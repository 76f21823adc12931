/- Contracts of functions of the program, by the texts that it imports. No conditions. -/
import Derived.Test.YtlfhpibbmgjgnaaW107
import Derived.Test.YtlfhpibbmgjgnaaW111
import Derived.Test.YtlfhpibbmgjgnaaW110
import Derived.Test.YtlfhpibbmgjgnaaW52
set_option linter.unusedVariables false
set_option linter.unusedSimpArgs false
namespace Go.Proofs.Ytlfhpibbmgjgnaa
open Ink Go
open Bool renaming false_eq_true → zo0, not_true → zob, not_false → zop, true_eq_false → zoq, not_eq_true → zor, not_eq_false → zos, not_eq_eq_eq_not → zot
open Int renaming toNat_natCast → zoa, add_zero → zou, zero_add → zov
open List renaming length_append → znx, cons_append → zny, length_cons → znz, set_cons_zero → zo1, set_cons_succ → zo2, take_succ_cons → zo6, drop_succ_cons → zo7, drop_zero → zo8, map_cons → zo9, length_nil → zod, map_nil → zof, mem_cons → zog, not_mem_nil → zoh, replicate_zero → zoj, replicate_succ → zok, nil_append → zol, getElem?_cons_zero → zom, getElem?_cons_succ → zon, prefix_rfl → zox, prefix_refl → zoy, nil_prefix → zoz, take_zero → zp0, getD_cons_zero → zp2, getD_cons_succ → zp3
open Nat renaming add_zero → zo3, sub_zero → zo4, zero_le → zoc, zero_add → zoe, le_refl → zoo, mul_zero → zow, not_lt_zero → zp1, sub_self → zp4
open Option renaming map_some → zo5, isSome_some → zoi
set_option maxRecDepth 100000
set_option linter.all false
theorem specPBL_at (s : SheetM) (a b : SpotM) (L : List SpotM) (hs : s.Ok) (ha : ok8 a.x ∧ ok8 a.y) (hb : ok8 b.x ∧ ok8 b.y) {D : Int} (hv : validS s) (fa : freeP s a.x a.y) (fb : freeP s b.x b.y) (hD : mget (allQ s b) (ky a) = some D) (hL : wayTo s (allQ s b) a D (D.toNat + 1) = L) (H : Heap) : ACall Cx.P [] 20 [.agg shSheet (sheetD s), .agg shSpot (spotD a.x a.y), .agg shSpot (spotD b.x b.y)] H (.tup [.slc H.length 0 L.length, .int .i64 0]) (H ++ [.seq true shSpot (L.map spotV)]) := by
  have h := specPB_ok_at s a b hs ha hb hv fa fb hD H
  subst hL
  rw [way_len]
  exact h
theorem implPBL_at (s : SheetM) (a b : SpotM) (L : List SpotM) (hs : s.Ok) {D : Int} (hv : validS s) (fa : freeP s a.x a.y) (fb : freeP s b.x b.y) (hD : mget (allQ s b) (ky a) = some D) (hL : wayTo s (allQ s b) a D (D.toNat + 1) = L) (H : Heap) : ACall Cx.P [] 22 [.agg shSheet (sheetD s), .agg shSpot (spotD a.x a.y), .agg shSpot (spotD b.x b.y)] H (.tup [.slc H.length 0 L.length, .int .i64 0]) (H ++ [.seq true shSpot (L.map spotV)]) := by
  have h := implPB_ok_at s a b hs hv fa fb hD H
  subst hL
  rw [way_len]
  exact h
theorem eqPB_at (L : List SpotM) (hL : L.length ≤ 1000) {H : Heap} {p q : Nat} (hp : H[p]? = some (.seq true shSpot (L.map spotV))) (hq : H[q]? = some (.seq true shSpot (L.map spotV))) (hne : p ≠ q) : ACall Cx.P [] 23 [.slc p 0 L.length, .slc q 0 L.length] H (.bool true) H :=
  eqSpotS_at L [] hL (by rw [List.append_nil]; exact hp) hq hne
theorem markPB_at (L : List SpotM) (hL : L.length ≤ 1000) {H : Heap} {q : Nat} (hq : H[q]? = some (.seq true shSpot (L.map spotV))) : ACall Cx.P [q] 24 [.slc q 0 L.length, .int .i64 1] H (.int .i64 (1 + 2 * (L.length : Int))) (H.set q (.seq true shSpot ((mkSs L.length).map spotV))) := by
  have := markSpotS_at L [] hL (H := H) (q := q) (by rw [List.append_nil]; exact hq)
  rwa [List.append_nil] at this
theorem heldPB_at (n : Nat) (hn : n ≤ 1000) {H : Heap} {q : Nat} (hq : H[q]? = some (.seq true shSpot ((mkSs n).map spotV))) : ACall Cx.P [] 25 [.slc q 0 n, .int .i64 1] H (.int .i64 (1 + 2 * (n : Int))) H :=
  heldSpotS_at n [] hn (by rw [List.append_nil]; exact hq)
end Go.Proofs.Ytlfhpibbmgjgnaa
