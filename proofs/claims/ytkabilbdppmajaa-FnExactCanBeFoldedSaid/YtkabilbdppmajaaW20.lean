/- Contracts of functions of the program, by the texts that it imports. No conditions. -/
import Derived.Test.YtkabilbdppmajaaW19
import Derived.Test.YtkabilbdppmajaaInkGf
set_option linter.unusedVariables false
set_option linter.unusedSimpArgs false
namespace Go.Proofs.Ytkabilbdppmajaa
open Ink Go
open Bool renaming false_eq_true → zud, not_true → zuo, not_false → zv2, true_eq_false → zv3, not_eq_true → zv4, not_eq_false → zv5, not_eq_eq_eq_not → zv6
open Int renaming toNat_natCast → zun, add_zero → zv7, zero_add → zv8
open List renaming length_append → zua, cons_append → zub, length_cons → zuc, set_cons_zero → zue, set_cons_succ → zuf, take_succ_cons → zuj, drop_succ_cons → zuk, drop_zero → zul, map_cons → zum, length_nil → zuq, map_nil → zus, mem_cons → zut, not_mem_nil → zuu, replicate_zero → zuv, replicate_succ → zuw, nil_append → zux, getElem?_cons_zero → zuy, getElem?_cons_succ → zuz, prefix_rfl → zva, prefix_refl → zvb, nil_prefix → zvc, take_zero → zvd, getD_cons_zero → zvf, getD_cons_succ → zvg
open Nat renaming add_zero → zug, sub_zero → zuh, zero_le → zup, zero_add → zur, le_refl → zv0, mul_zero → zv9, not_lt_zero → zve, sub_self → zvh
open Option renaming map_some → zui, isSome_some → zv1
set_option maxRecDepth 100000
set_option linter.all false
end Go.Proofs.Ytkabilbdppmajaa
