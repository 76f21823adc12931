/- Contracts of functions of the program, by the texts that it imports. No conditions. -/
import Derived.Test.YtaabokmbkohieaaW6
import Derived.Test.YtaabokmbkohieaaInkGe
set_option linter.unusedVariables false
set_option linter.unusedSimpArgs false
namespace Go.Proofs.Ytaabokmbkohieaa
open Ink Go
open Bool renaming false_eq_true → zmy, not_true → zn9, not_false → znn, true_eq_false → zno, not_eq_true → znp, not_eq_false → znq, not_eq_eq_eq_not → znr
open Int renaming toNat_natCast → zn8, add_zero → zns, zero_add → znt
open List renaming length_append → zmv, cons_append → zmw, length_cons → zmx, set_cons_zero → zmz, set_cons_succ → zn0, take_succ_cons → zn4, drop_succ_cons → zn5, drop_zero → zn6, map_cons → zn7, length_nil → znb, map_nil → znd, mem_cons → zne, not_mem_nil → znf, replicate_zero → zng, replicate_succ → znh, nil_append → zni, getElem?_cons_zero → znj, getElem?_cons_succ → znk, prefix_rfl → znv, prefix_refl → znw, nil_prefix → znx, take_zero → zny, getD_cons_zero → zo0, getD_cons_succ → zo1
open Nat renaming add_zero → zn1, sub_zero → zn2, zero_le → zna, zero_add → znc, le_refl → znl, mul_zero → znu, not_lt_zero → znz, sub_self → zo2
open Option renaming map_some → zn3, isSome_some → znm
set_option maxRecDepth 100000
set_option linter.all false
end Go.Proofs.Ytaabokmbkohieaa
