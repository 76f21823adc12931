/- Contracts of functions of the program, by the texts that it imports. No conditions. -/
import Derived.Test.YtjdpdnpfnlpjnaaW9
import Derived.Test.YtjdpdnpfnlpjnaaInkGg
set_option linter.unusedVariables false
set_option linter.unusedSimpArgs false
namespace Go.Proofs.Ytjdpdnpfnlpjnaa
open Ink Go
open Bool renaming false_eq_true → zsq, not_true → zt1, not_false → ztf, true_eq_false → ztg, not_eq_true → zth, not_eq_false → zti, not_eq_eq_eq_not → ztj
open Int renaming toNat_natCast → zt0, add_zero → ztk, zero_add → ztl
open List renaming length_append → zsn, cons_append → zso, length_cons → zsp, set_cons_zero → zsr, set_cons_succ → zss, take_succ_cons → zsw, drop_succ_cons → zsx, drop_zero → zsy, map_cons → zsz, length_nil → zt3, map_nil → zt5, mem_cons → zt6, not_mem_nil → zt7, replicate_zero → zt8, replicate_succ → zt9, nil_append → zta, getElem?_cons_zero → ztb, getElem?_cons_succ → ztc, prefix_rfl → ztn, prefix_refl → zto, nil_prefix → ztp, take_zero → ztq, getD_cons_zero → zts, getD_cons_succ → ztt
open Nat renaming add_zero → zst, sub_zero → zsu, zero_le → zt2, zero_add → zt4, le_refl → ztd, mul_zero → ztm, not_lt_zero → ztr, sub_self → ztu
open Option renaming map_some → zsv, isSome_some → zte
set_option maxRecDepth 100000
set_option linter.all false
theorem l00Min_c (x y : Int) : ACall Cx.P [] 151 [.int .i64 x, .int .i64 y] [] (.int .i64 (minM x y)) [] := by
  refine acall_of_code Cx_ok Try.func151 rfl (by kernel_rfl) rfl (by kernel_rfl) (by simp) ?_
  simp only [z02,z2k,z2o,z2n,z2m,z2l,z3e,z4e,z4d,z2q,z2p,z1z,z1y,z3b,z2a,z26,z24,z29,z27,z28,z25,z3m,z3s,z3t,z3u,z3p,z3o,z3q,z3n,z3j,z3k,z3v,z3w,z3h,z3i,z42,z3r,z08,z41,z40,z3l,z2r,z2w,z2x,z2v,z31,z32,z30,z1n,z1o,z2g,z2f,z3d,z18,z4f,z0z,z1p,z1q,z3a,z4u,z3f,z19,z3g,z4t,z2e,z2d,z2z,z3x,z3y,z3z,z43,z39,z38,z2y,z2c,z1s,z1t,z1r,z33,z36,z35,z37,z34,z1e,z1f,z1g,z1c,z1d,z1a,z1b,z6l,z6j,z6k,z4j,z4k,z12,z10,z11,z4g,z4h,z4i,z15,z14,z13,z4p,z4s,z4o,z2b,z1u,z1i,z4w,z4x,z4v,z1k,z1m,z1j,z2h,z2i,z4m,z4n,z4l,z45,z46,z44,z17,z16,z06,z04,z07,z03,z05,z2s,z2t,z2u,z4q,z4r,z23,z20,z22,z21,z09,z1v,z1x,z1w,z2j,z48,z4a,z4b,z47,z4c,z49,z00,z01,z1l,z0g,z0i,z0k,z0a,z0d,z0b,z0l,z0e,z0f,z0h,z0j,z0m,z5p,z5q,z5n,z5o,z5t,z5m,z5x,z5w,z5r,z5s,z5u,z5v,z0c,z51,z52,z53,z54,z55,z4z,z50,z5b,z4y,z5l,z56,z57,z58,z59,z5a,z5c,z5d,z5e,z5f,z5g,z5h,z5i,z5j,z5k,z1h,z0y,z0x,z0t,z0o,z0u,z0p,z0v,z0q,z0w,z0r,z5z,z5y,z61,z60,z63,z62,z9u,z0s,z0n,z9a,z99,za1,z9x,za2,z9y,z9t,z9s,cP,Try.f151,zt8,zt9,z3c,zt2,true_or,or_true,or_false,false_or,zt6,zt7,zt0,Int.reduceToNat,Int.reduceLT,Int.reduceLE,Int.cast_ofNat_Int,zsp,zt3,Nat.reduceEqDiff,↓reduceIte,Nat.reduceAdd,zsp,zt3,zsn,zso,zta,ztb,ztc,zt4,reduceCtorEq,zsz,zt5,zsv,true_and,and_true,zsr,zss,Nat.reduceLT,Nat.reduceLeDiff,ztd,if_true,if_false,zsq,not_true_eq_false,not_false_eq_true,zte,zt1,ztf,ztg,forall_const,true_implies,false_implies,implies_true,decide_eq_true_eq,decide_eq_false_iff_not,zth,zti,ztj,eq_self]
  ((repeat' first | (refine And.intro ?_ ?_) | (intro _)) <;> try omega)
  · rename_i h
    exact fin_0 rfl (by rw [minM, if_pos h])
  · rename_i h
    exact fin_0 rfl (by rw [minM, if_neg h])
theorem l00Min_at (x y : Int) (H : Heap) : ACall Cx.P [] 151 [.int .i64 x, .int .i64 y] H (.int .i64 (minM x y)) H := (l00Min_c x y).at0 rfl rfl H
end Go.Proofs.Ytjdpdnpfnlpjnaa
