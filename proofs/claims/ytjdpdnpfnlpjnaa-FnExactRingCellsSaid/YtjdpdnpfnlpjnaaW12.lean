/- Contracts of functions of the program, by the texts that it imports. No conditions. -/
import Derived.Test.YtjdpdnpfnlpjnaaTyS
import Derived.Test.YtjdpdnpfnlpjnaaInkGe
set_option linter.unusedVariables false
set_option linter.unusedSimpArgs false
namespace Go.Proofs.Ytjdpdnpfnlpjnaa
open Ink Go
open Bool renaming false_eq_true → zsk, not_true → zsv, not_false → zt9, true_eq_false → zta, not_eq_true → ztb, not_eq_false → ztc, not_eq_eq_eq_not → ztd
open Int renaming toNat_natCast → zsu, add_zero → zte, zero_add → ztf
open List renaming length_append → zsh, cons_append → zsi, length_cons → zsj, set_cons_zero → zsl, set_cons_succ → zsm, take_succ_cons → zsq, drop_succ_cons → zsr, drop_zero → zss, map_cons → zst, length_nil → zsx, map_nil → zsz, mem_cons → zt0, not_mem_nil → zt1, replicate_zero → zt2, replicate_succ → zt3, nil_append → zt4, getElem?_cons_zero → zt5, getElem?_cons_succ → zt6, prefix_rfl → zth, prefix_refl → zti, nil_prefix → ztj, take_zero → ztk, getD_cons_zero → ztm, getD_cons_succ → ztn
open Nat renaming add_zero → zsn, sub_zero → zso, zero_le → zsw, zero_add → zsy, le_refl → zt7, mul_zero → ztg, not_lt_zero → ztl, sub_self → zto
open Option renaming map_some → zsp, isSome_some → zt8
set_option maxRecDepth 100000
set_option linter.all false
end Go.Proofs.Ytjdpdnpfnlpjnaa
