/- Contracts of functions of the program, by the texts that it imports. No conditions. -/
import Derived.Test.YtjdpdnpfnlpjnaaW6
import Derived.Test.YtjdpdnpfnlpjnaaInkGe
set_option linter.unusedVariables false
set_option linter.unusedSimpArgs false
namespace Go.Proofs.Ytjdpdnpfnlpjnaa
open Ink Go
open Bool renaming false_eq_true → zjd, not_true → zjo, not_false → zk2, true_eq_false → zk3, not_eq_true → zk4, not_eq_false → zk5, not_eq_eq_eq_not → zk6
open Int renaming toNat_natCast → zjn, add_zero → zk7, zero_add → zk8
open List renaming length_append → zja, cons_append → zjb, length_cons → zjc, set_cons_zero → zje, set_cons_succ → zjf, take_succ_cons → zjj, drop_succ_cons → zjk, drop_zero → zjl, map_cons → zjm, length_nil → zjq, replicate_zero → zjs, replicate_succ → zjt, mem_cons → zju, not_mem_nil → zjv, nil_append → zjw, getElem?_cons_zero → zjx, getElem?_cons_succ → zjy, map_nil → zjz, prefix_rfl → zka, prefix_refl → zkb, nil_prefix → zkc, take_zero → zkd, getD_cons_zero → zkf, getD_cons_succ → zkg
open Nat renaming add_zero → zjg, sub_zero → zjh, zero_le → zjp, zero_add → zjr, le_refl → zk0, mul_zero → zk9, not_lt_zero → zke, sub_self → zkh
open Option renaming map_some → zji, isSome_some → zk1
set_option maxRecDepth 100000
set_option linter.all false
end Go.Proofs.Ytjdpdnpfnlpjnaa
