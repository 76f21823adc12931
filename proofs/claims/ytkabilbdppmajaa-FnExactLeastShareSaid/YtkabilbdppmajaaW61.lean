/- Contracts of functions of the program, by the texts that it imports. No conditions. -/
import Derived.Test.YtkabilbdppmajaaW40
import Derived.Test.YtkabilbdppmajaaInkGi
set_option linter.unusedVariables false
set_option linter.unusedSimpArgs false
namespace Go.Proofs.Ytkabilbdppmajaa
open Ink Go
open Bool renaming false_eq_true → zm1, not_true → zmc, not_false → zmq, true_eq_false → zmr, not_eq_true → zms, not_eq_false → zmt, not_eq_eq_eq_not → zmu
open Int renaming toNat_natCast → zmb, add_zero → zmv, zero_add → zmw
open List renaming length_append → zly, cons_append → zlz, length_cons → zm0, set_cons_zero → zm2, set_cons_succ → zm3, take_succ_cons → zm7, drop_succ_cons → zm8, drop_zero → zm9, map_cons → zma, length_nil → zme, map_nil → zmg, replicate_zero → zmh, replicate_succ → zmi, mem_cons → zmj, not_mem_nil → zmk, nil_append → zml, getElem?_cons_zero → zmm, getElem?_cons_succ → zmn, prefix_rfl → zmy, prefix_refl → zmz, nil_prefix → zn0, take_zero → zn1, getD_cons_zero → zn3, getD_cons_succ → zn4
open Nat renaming add_zero → zm4, sub_zero → zm5, zero_le → zmd, zero_add → zmf, le_refl → zmo, mul_zero → zmx, not_lt_zero → zn2, sub_self → zn5
open Option renaming map_some → zm6, isSome_some → zmp
set_option maxRecDepth 100000
set_option linter.all false
end Go.Proofs.Ytkabilbdppmajaa
