/- Contracts of functions of the program, by the texts that it imports. No conditions. -/
import Derived.Test.YtjdpdnpfnlpjnaaW1
set_option linter.unusedVariables false
set_option linter.unusedSimpArgs false
namespace Go.Proofs.Ytjdpdnpfnlpjnaa
open Ink Go
open Bool renaming false_eq_true → zsq, not_true → zt1, not_false → ztf, true_eq_false → ztg, not_eq_true → zth, not_eq_false → zti, not_eq_eq_eq_not → ztj
open Int renaming toNat_natCast → zt0, add_zero → ztk, zero_add → ztl
open List renaming length_append → zsn, cons_append → zso, length_cons → zsp, set_cons_zero → zsr, set_cons_succ → zss, take_succ_cons → zsw, drop_succ_cons → zsx, drop_zero → zsy, map_cons → zsz, length_nil → zt3, map_nil → zt5, mem_cons → zt6, not_mem_nil → zt7, replicate_zero → zt8, replicate_succ → zt9, nil_append → zta, getElem?_cons_zero → ztb, getElem?_cons_succ → ztc, prefix_rfl → ztn, prefix_refl → zto, nil_prefix → ztp, take_zero → ztq, getD_cons_zero → zts, getD_cons_succ → ztt
open Nat renaming add_zero → zst, sub_zero → zsu, zero_le → zt2, zero_add → zt4, le_refl → ztd, mul_zero → ztm, not_lt_zero → ztr, sub_self → ztu
open Option renaming map_some → zsv, isSome_some → zte
set_option maxRecDepth 100000
set_option linter.all false
end Go.Proofs.Ytjdpdnpfnlpjnaa
