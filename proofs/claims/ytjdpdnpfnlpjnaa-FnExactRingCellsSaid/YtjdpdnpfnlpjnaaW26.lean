/- Contracts of functions of the program, by the texts that it imports. No conditions. -/
import Derived.Test.YtjdpdnpfnlpjnaaW9
import Derived.Test.YtjdpdnpfnlpjnaaInkGg
set_option linter.unusedVariables false
set_option linter.unusedSimpArgs false
namespace Go.Proofs.Ytjdpdnpfnlpjnaa
open Ink Go
open Bool renaming false_eq_true → zsk, not_true → zsv, not_false → zt9, true_eq_false → zta, not_eq_true → ztb, not_eq_false → ztc, not_eq_eq_eq_not → ztd
open Int renaming toNat_natCast → zsu, add_zero → zte, zero_add → ztf
open List renaming length_append → zsh, cons_append → zsi, length_cons → zsj, set_cons_zero → zsl, set_cons_succ → zsm, take_succ_cons → zsq, drop_succ_cons → zsr, drop_zero → zss, map_cons → zst, length_nil → zsx, map_nil → zsz, mem_cons → zt0, not_mem_nil → zt1, replicate_zero → zt2, replicate_succ → zt3, nil_append → zt4, getElem?_cons_zero → zt5, getElem?_cons_succ → zt6, prefix_rfl → zth, prefix_refl → zti, nil_prefix → ztj, take_zero → ztk, getD_cons_zero → ztm, getD_cons_succ → ztn
open Nat renaming add_zero → zsn, sub_zero → zso, zero_le → zsw, zero_add → zsy, le_refl → zt7, mul_zero → ztg, not_lt_zero → ztl, sub_self → zto
open Option renaming map_some → zsp, isSome_some → zt8
set_option maxRecDepth 100000
set_option linter.all false
theorem l00Min_c (x y : Int) : ACall Cx.P [] 151 [.int .i64 x, .int .i64 y] [] (.int .i64 (minM x y)) [] := by
  refine acall_of_code Cx_ok Try.func151 rfl (by kernel_rfl) rfl (by kernel_rfl) (by simp) ?_
  simp only [z02,z2i,z2m,z2l,z2k,z2j,z3c,z4c,z4b,z2o,z2n,z1x,z1w,z39,z28,z24,z22,z27,z25,z26,z23,z3k,z3q,z3r,z3s,z3n,z3m,z3o,z3l,z3h,z3i,z3t,z3u,z3f,z3g,z40,z3p,z08,z3z,z3y,z3j,z2p,z2u,z2v,z2t,z2z,z30,z2y,z1l,z1m,z2e,z2d,z3b,z18,z4d,z0z,z1n,z1o,z38,z4s,z3d,z19,z3e,z4r,z2c,z2b,z2x,z3v,z3w,z3x,z41,z37,z36,z2w,z2a,z1q,z1r,z1p,z31,z34,z33,z35,z32,z1e,z1c,z1d,z1a,z1b,z6h,z6f,z6g,z4h,z4i,z12,z10,z11,z4e,z4f,z4g,z15,z14,z13,z4n,z4q,z4m,z29,z1s,z1g,z4u,z4v,z4t,z1i,z1k,z1h,z2f,z2g,z4k,z4l,z4j,z43,z44,z42,z17,z16,z06,z04,z07,z03,z05,z2q,z2r,z2s,z4o,z4p,z21,z1y,z20,z1z,z09,z1t,z1v,z1u,z2h,z46,z48,z49,z45,z4a,z47,z00,z01,z1j,z0g,z0i,z0k,z0a,z0d,z0b,z0l,z0e,z0f,z0h,z0j,z0m,z5n,z5o,z5l,z5m,z5r,z5k,z5v,z5u,z5p,z5q,z5s,z5t,z0c,z4z,z50,z51,z52,z53,z4x,z4y,z59,z4w,z5j,z54,z55,z56,z57,z58,z5a,z5b,z5c,z5d,z5e,z5f,z5g,z5h,z5i,z1f,z0y,z0x,z0t,z0o,z0u,z0p,z0v,z0q,z0w,z0r,z5x,z5w,z5z,z5y,z61,z60,z86,z0s,z0n,z83,z82,z7s,z7r,z8i,z8d,z85,z84,cP,Try.f151,zt2,zt3,z3a,zsw,true_or,or_true,or_false,false_or,zt0,zt1,zsu,Int.reduceToNat,Int.reduceLT,Int.reduceLE,Int.cast_ofNat_Int,zsj,zsx,Nat.reduceEqDiff,↓reduceIte,Nat.reduceAdd,zsj,zsx,zsh,zsi,zt4,zt5,zt6,zsy,reduceCtorEq,zst,zsz,zsp,true_and,and_true,zsl,zsm,Nat.reduceLT,Nat.reduceLeDiff,zt7,if_true,if_false,zsk,not_true_eq_false,not_false_eq_true,zt8,zsv,zt9,zta,forall_const,true_implies,false_implies,implies_true,decide_eq_true_eq,decide_eq_false_iff_not,ztb,ztc,ztd,eq_self]
  ((repeat' first | (refine And.intro ?_ ?_) | (intro _)) <;> try omega)
  · rename_i h
    exact fin_0 rfl (by rw [minM, if_pos h])
  · rename_i h
    exact fin_0 rfl (by rw [minM, if_neg h])
theorem l00Min_at (x y : Int) (H : Heap) : ACall Cx.P [] 151 [.int .i64 x, .int .i64 y] H (.int .i64 (minM x y)) H := (l00Min_c x y).at0 rfl rfl H
end Go.Proofs.Ytjdpdnpfnlpjnaa
