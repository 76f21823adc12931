/- Contracts of functions of the program, by the texts that it imports. No conditions. -/
import Derived.Test.YtlfhpibbmgjgnaaW12
import Derived.Test.YtlfhpibbmgjgnaaW9
set_option linter.unusedVariables false
set_option linter.unusedSimpArgs false
namespace Go.Proofs.Ytlfhpibbmgjgnaa
open Ink Go
open Bool renaming false_eq_true → zhy, not_true → zi9, not_false → zin, true_eq_false → zio, not_eq_true → ziq, not_eq_false → zir, not_eq_eq_eq_not → zis
open Int renaming toNat_natCast → zi8, add_zero → zit, zero_add → ziu
open List renaming length_append → zhv, cons_append → zhw, length_cons → zhx, set_cons_zero → zhz, set_cons_succ → zi0, take_succ_cons → zi4, drop_succ_cons → zi5, drop_zero → zi6, map_cons → zi7, length_nil → zib, replicate_zero → zid, replicate_succ → zie, mem_cons → zif, not_mem_nil → zig, nil_append → zih, getElem?_cons_zero → zii, getElem?_cons_succ → zij, map_nil → zik, prefix_rfl → ziw, prefix_refl → zix, nil_prefix → ziy, take_zero → ziz, getD_cons_zero → zj1, getD_cons_succ → zj2
open Nat renaming add_zero → zi1, sub_zero → zi2, zero_le → zia, zero_add → zic, le_refl → zil, mul_zero → ziv, not_lt_zero → zj0, sub_self → zj3
open Option renaming map_some → zi3, isSome_some → zim
set_option maxRecDepth 100000
set_option linter.all false
end Go.Proofs.Ytlfhpibbmgjgnaa
