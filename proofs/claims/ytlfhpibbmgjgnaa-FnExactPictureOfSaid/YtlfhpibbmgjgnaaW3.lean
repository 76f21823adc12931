/- Contracts of functions of the program, by the texts that it imports. No conditions. -/
import Derived.Test.YtlfhpibbmgjgnaaTyV
import Derived.Test.YtlfhpibbmgjgnaaInkGe
set_option linter.unusedVariables false
set_option linter.unusedSimpArgs false
namespace Go.Proofs.Ytlfhpibbmgjgnaa
open Ink Go
open Bool renaming false_eq_true → zog, not_true → zor, not_false → zp6, true_eq_false → zp7, not_eq_true → zp8, not_eq_false → zp9, not_eq_eq_eq_not → zpa
open Int renaming toNat_natCast → zoq, add_zero → zpb, zero_add → zpc
open List renaming length_append → zod, cons_append → zoe, length_cons → zof, set_cons_zero → zoh, set_cons_succ → zoi, take_succ_cons → zom, drop_succ_cons → zon, drop_zero → zoo, map_cons → zop, length_nil → zot, map_nil → zov, mem_cons → zow, not_mem_nil → zox, replicate_zero → zoz, replicate_succ → zp0, nil_append → zp1, getElem?_cons_zero → zp2, getElem?_cons_succ → zp3, prefix_rfl → zpe, prefix_refl → zpf, nil_prefix → zpg, take_zero → zph, getD_cons_zero → zpj, getD_cons_succ → zpk
open Nat renaming add_zero → zoj, sub_zero → zok, zero_le → zos, zero_add → zou, sub_self → zoy, le_refl → zp4, mul_zero → zpd, not_lt_zero → zpi
open Option renaming map_some → zol, isSome_some → zp5
set_option maxRecDepth 100000
set_option linter.all false
end Go.Proofs.Ytlfhpibbmgjgnaa
