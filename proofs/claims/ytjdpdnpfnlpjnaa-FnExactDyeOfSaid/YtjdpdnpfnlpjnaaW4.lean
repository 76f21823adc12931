/- Contracts of functions of the program, by the texts that it imports. No conditions. -/
import Derived.Test.YtjdpdnpfnlpjnaaW1
set_option linter.unusedVariables false
set_option linter.unusedSimpArgs false
namespace Go.Proofs.Ytjdpdnpfnlpjnaa
open Ink Go
open Bool renaming false_eq_true → zso, not_true → zsz, not_false → ztd, true_eq_false → zte, not_eq_true → ztf, not_eq_false → ztg, not_eq_eq_eq_not → zth
open Int renaming toNat_natCast → zsy, add_zero → zti, zero_add → ztj
open List renaming length_append → zsl, cons_append → zsm, length_cons → zsn, set_cons_zero → zsp, set_cons_succ → zsq, take_succ_cons → zsu, drop_succ_cons → zsv, drop_zero → zsw, map_cons → zsx, length_nil → zt1, map_nil → zt3, mem_cons → zt4, not_mem_nil → zt5, replicate_zero → zt6, replicate_succ → zt7, nil_append → zt8, getElem?_cons_zero → zt9, getElem?_cons_succ → zta, prefix_rfl → ztl, prefix_refl → ztm, nil_prefix → ztn, take_zero → zto, getD_cons_zero → ztq, getD_cons_succ → ztr
open Nat renaming add_zero → zsr, sub_zero → zss, zero_le → zt0, zero_add → zt2, le_refl → ztb, mul_zero → ztk, not_lt_zero → ztp, sub_self → zts
open Option renaming map_some → zst, isSome_some → ztc
set_option maxRecDepth 100000
set_option linter.all false
end Go.Proofs.Ytjdpdnpfnlpjnaa
