/- Contracts of functions of the program, by the texts that it imports. No conditions. -/
import Derived.Test.YtaabokmbkohieaaW42
import Derived.Test.YtaabokmbkohieaaInkGh
set_option linter.unusedVariables false
set_option linter.unusedSimpArgs false
namespace Go.Proofs.Ytaabokmbkohieaa
open Ink Go
open Bool renaming false_eq_true → zoj, not_true → zou, not_false → zp8, true_eq_false → zp9, not_eq_true → zpa, not_eq_false → zpb, not_eq_eq_eq_not → zpc
open Int renaming toNat_natCast → zot, add_zero → zpd, zero_add → zpe
open List renaming length_append → zog, cons_append → zoh, length_cons → zoi, set_cons_zero → zok, set_cons_succ → zol, take_succ_cons → zop, drop_succ_cons → zoq, drop_zero → zor, map_cons → zos, length_nil → zow, map_nil → zoy, mem_cons → zoz, not_mem_nil → zp0, replicate_zero → zp1, replicate_succ → zp2, nil_append → zp3, getElem?_cons_zero → zp4, getElem?_cons_succ → zp5, prefix_rfl → zpg, prefix_refl → zph, nil_prefix → zpi, take_zero → zpj, getD_cons_zero → zpl, getD_cons_succ → zpm
open Nat renaming add_zero → zom, sub_zero → zon, zero_le → zov, zero_add → zox, le_refl → zp6, mul_zero → zpf, not_lt_zero → zpk, sub_self → zpn
open Option renaming map_some → zoo, isSome_some → zp7
set_option maxRecDepth 100000
set_option linter.all false
end Go.Proofs.Ytaabokmbkohieaa
