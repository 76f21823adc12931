/- Contracts of functions of the program, by the texts that it imports. No conditions. -/
import Derived.Test.YtjdpdnpfnlpjnaaW1
set_option linter.unusedVariables false
set_option linter.unusedSimpArgs false
namespace Go.Proofs.Ytjdpdnpfnlpjnaa
open Ink Go
open Bool renaming false_eq_true → zjf, not_true → zjq, not_false → zk4, true_eq_false → zk5, not_eq_true → zk6, not_eq_false → zk7, not_eq_eq_eq_not → zk8
open Int renaming toNat_natCast → zjp, add_zero → zk9, zero_add → zka
open List renaming length_append → zjc, cons_append → zjd, length_cons → zje, set_cons_zero → zjg, set_cons_succ → zjh, take_succ_cons → zjl, drop_succ_cons → zjm, drop_zero → zjn, map_cons → zjo, length_nil → zjs, replicate_zero → zju, replicate_succ → zjv, mem_cons → zjw, not_mem_nil → zjx, nil_append → zjy, getElem?_cons_zero → zjz, getElem?_cons_succ → zk0, map_nil → zk1, prefix_rfl → zkc, prefix_refl → zkd, nil_prefix → zke, take_zero → zkf, getD_cons_zero → zkh, getD_cons_succ → zki
open Nat renaming add_zero → zji, sub_zero → zjj, zero_le → zjr, zero_add → zjt, le_refl → zk2, mul_zero → zkb, not_lt_zero → zkg, sub_self → zkj
open Option renaming map_some → zjk, isSome_some → zk3
set_option maxRecDepth 100000
set_option linter.all false
end Go.Proofs.Ytjdpdnpfnlpjnaa
