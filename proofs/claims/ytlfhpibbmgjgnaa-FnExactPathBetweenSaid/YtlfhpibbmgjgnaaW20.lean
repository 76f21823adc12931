/- Contracts of functions of the program, by the texts that it imports. No conditions. -/
import Derived.Test.YtlfhpibbmgjgnaaW19
import Derived.Test.YtlfhpibbmgjgnaaInkGf
set_option linter.unusedVariables false
set_option linter.unusedSimpArgs false
namespace Go.Proofs.Ytlfhpibbmgjgnaa
open Ink Go
open Bool renaming false_eq_true → zo0, not_true → zob, not_false → zop, true_eq_false → zoq, not_eq_true → zor, not_eq_false → zos, not_eq_eq_eq_not → zot
open Int renaming toNat_natCast → zoa, add_zero → zou, zero_add → zov
open List renaming length_append → znx, cons_append → zny, length_cons → znz, set_cons_zero → zo1, set_cons_succ → zo2, take_succ_cons → zo6, drop_succ_cons → zo7, drop_zero → zo8, map_cons → zo9, length_nil → zod, map_nil → zof, mem_cons → zog, not_mem_nil → zoh, replicate_zero → zoj, replicate_succ → zok, nil_append → zol, getElem?_cons_zero → zom, getElem?_cons_succ → zon, prefix_rfl → zox, prefix_refl → zoy, nil_prefix → zoz, take_zero → zp0, getD_cons_zero → zp2, getD_cons_succ → zp3
open Nat renaming add_zero → zo3, sub_zero → zo4, zero_le → zoc, zero_add → zoe, le_refl → zoo, mul_zero → zow, not_lt_zero → zp1, sub_self → zp4
open Option renaming map_some → zo5, isSome_some → zoi
set_option maxRecDepth 100000
set_option linter.all false
end Go.Proofs.Ytlfhpibbmgjgnaa
