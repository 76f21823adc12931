/- Contracts of functions of the program, by the texts that it imports. No conditions. -/
import Derived.Test.YtjdpdnpfnlpjnaaW43
set_option linter.unusedVariables false
set_option linter.unusedSimpArgs false
namespace Go.Proofs.Ytjdpdnpfnlpjnaa
open Ink Go
open Bool renaming false_eq_true → zsj, not_true → zsu, not_false → zt8, true_eq_false → zt9, not_eq_true → zta, not_eq_false → ztb, not_eq_eq_eq_not → ztc
open Int renaming toNat_natCast → zst, add_zero → ztd, zero_add → zte
open List renaming length_append → zsg, cons_append → zsh, length_cons → zsi, set_cons_zero → zsk, set_cons_succ → zsl, take_succ_cons → zsp, drop_succ_cons → zsq, drop_zero → zsr, map_cons → zss, length_nil → zsw, map_nil → zsy, mem_cons → zsz, not_mem_nil → zt0, replicate_zero → zt1, replicate_succ → zt2, nil_append → zt3, getElem?_cons_zero → zt4, getElem?_cons_succ → zt5, prefix_rfl → ztg, prefix_refl → zth, nil_prefix → zti, take_zero → ztj, getD_cons_zero → ztl, getD_cons_succ → ztm
open Nat renaming add_zero → zsm, sub_zero → zsn, zero_le → zsv, zero_add → zsx, le_refl → zt6, mul_zero → ztf, not_lt_zero → ztk, sub_self → ztn
open Option renaming map_some → zso, isSome_some → zt7
set_option maxRecDepth 100000
set_option linter.all false
end Go.Proofs.Ytjdpdnpfnlpjnaa
