/- Contracts of functions of the program, by the texts that it imports. No conditions. -/
import Derived.Test.YtkabilbdppmajaaW41
import Derived.Test.YtkabilbdppmajaaW52
import Derived.Test.YtkabilbdppmajaaW2
import Derived.Test.YtkabilbdppmajaaInkGi
set_option linter.unusedVariables false
set_option linter.unusedSimpArgs false
namespace Go.Proofs.Ytkabilbdppmajaa
open Ink Go
open Bool renaming false_eq_true → zmd, not_true → zmo, not_false → zn2, true_eq_false → zn3, not_eq_true → zn4, not_eq_false → zn5, not_eq_eq_eq_not → zn6
open Int renaming toNat_natCast → zmn, add_zero → zn7, zero_add → zn8
open List renaming length_append → zma, cons_append → zmb, length_cons → zmc, set_cons_zero → zme, set_cons_succ → zmf, take_succ_cons → zmj, drop_succ_cons → zmk, drop_zero → zml, map_cons → zmm, length_nil → zmq, map_nil → zms, replicate_zero → zmt, replicate_succ → zmu, mem_cons → zmv, not_mem_nil → zmw, nil_append → zmx, getElem?_cons_zero → zmy, getElem?_cons_succ → zmz, prefix_rfl → zna, prefix_refl → znb, nil_prefix → znc, take_zero → znd, getD_cons_zero → znf, getD_cons_succ → zng
open Nat renaming add_zero → zmg, sub_zero → zmh, zero_le → zmp, zero_add → zmr, le_refl → zn0, mul_zero → zn9, not_lt_zero → zne, sub_self → znh
open Option renaming map_some → zmi, isSome_some → zn1
set_option maxRecDepth 100000
set_option linter.all false
end Go.Proofs.Ytkabilbdppmajaa
