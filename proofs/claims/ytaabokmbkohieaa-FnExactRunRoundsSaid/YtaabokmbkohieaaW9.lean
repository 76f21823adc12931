/- Contracts of functions of the program, by the texts that it imports. No conditions. -/
import Derived.Test.YtaabokmbkohieaaW6
import Derived.Test.YtaabokmbkohieaaInkGe
set_option linter.unusedVariables false
set_option linter.unusedSimpArgs false
namespace Go.Proofs.Ytaabokmbkohieaa
open Ink Go
open Bool renaming false_eq_true → zoh, not_true → zos, not_false → zp6, true_eq_false → zp7, not_eq_true → zp8, not_eq_false → zp9, not_eq_eq_eq_not → zpa
open Int renaming toNat_natCast → zor, add_zero → zpb, zero_add → zpc
open List renaming length_append → zoe, cons_append → zof, length_cons → zog, set_cons_zero → zoi, set_cons_succ → zoj, take_succ_cons → zon, drop_succ_cons → zoo, drop_zero → zop, map_cons → zoq, length_nil → zou, map_nil → zow, mem_cons → zox, not_mem_nil → zoy, replicate_zero → zoz, replicate_succ → zp0, nil_append → zp1, getElem?_cons_zero → zp2, getElem?_cons_succ → zp3, prefix_rfl → zpe, prefix_refl → zpf, nil_prefix → zpg, take_zero → zph, getD_cons_zero → zpj, getD_cons_succ → zpk
open Nat renaming add_zero → zok, sub_zero → zol, zero_le → zot, zero_add → zov, le_refl → zp4, mul_zero → zpd, not_lt_zero → zpi, sub_self → zpl
open Option renaming map_some → zom, isSome_some → zp5
set_option maxRecDepth 100000
set_option linter.all false
end Go.Proofs.Ytaabokmbkohieaa
