/- Contracts of functions of the program, by the texts that it imports. No conditions. -/
import Derived.Test.YtlfhpibbmgjgnaaW6
import Derived.Test.YtlfhpibbmgjgnaaInkGe
set_option linter.unusedVariables false
set_option linter.unusedSimpArgs false
namespace Go.Proofs.Ytlfhpibbmgjgnaa
open Ink Go
open Bool renaming false_eq_true → zog, not_true → zor, not_false → zp6, true_eq_false → zp7, not_eq_true → zp8, not_eq_false → zp9, not_eq_eq_eq_not → zpa
open Int renaming toNat_natCast → zoq, add_zero → zpb, zero_add → zpc
open List renaming length_append → zod, cons_append → zoe, length_cons → zof, set_cons_zero → zoh, set_cons_succ → zoi, take_succ_cons → zom, drop_succ_cons → zon, drop_zero → zoo, map_cons → zop, length_nil → zot, map_nil → zov, mem_cons → zow, not_mem_nil → zox, replicate_zero → zoz, replicate_succ → zp0, nil_append → zp1, getElem?_cons_zero → zp2, getElem?_cons_succ → zp3, prefix_rfl → zpe, prefix_refl → zpf, nil_prefix → zpg, take_zero → zph, getD_cons_zero → zpj, getD_cons_succ → zpk
open Nat renaming add_zero → zoj, sub_zero → zok, zero_le → zos, zero_add → zou, sub_self → zoy, le_refl → zp4, mul_zero → zpd, not_lt_zero → zpi
open Option renaming map_some → zol, isSome_some → zp5
set_option maxRecDepth 100000
set_option linter.all false
theorem l00Max_c (x y : Int) : ACall Cx.P [] 98 [.int .i64 x, .int .i64 y] [] (.int .i64 (maxM x y)) [] := by
  refine acall_of_code Cx_ok Try.func98 rfl (by kernel_rfl) rfl (by kernel_rfl) (by simp) ?_
  simp only [z02,z2s,z2w,z2v,z2u,z2t,z3p,z4y,z4x,z2y,z2x,z27,z26,z3m,z2i,z2e,z2c,z2h,z2f,z2g,z2d,z3x,z43,z44,z45,z40,z3z,z41,z3y,z3u,z3v,z4h,z4g,z4e,z4d,z3f,z48,z49,z3s,z3t,z4m,z42,z08,z4i,z4f,z3w,z2z,z35,z36,z34,z3b,z3c,z3a,z1u,z1v,z2o,z2n,z3o,z1c,z4z,z13,z1w,z1x,z3l,z5f,z3q,z1d,z3r,z5d,z4j,z4l,z4k,z46,z47,z5e,z2m,z2l,z39,z4a,z4b,z4c,z4n,z3k,z3j,z38,z2k,z1z,z21,z1y,z3d,z3h,z3g,z3i,z3e,z1i,z1l,z1m,z1n,z1j,z1k,z1g,z1h,z1e,z1f,zeb,ze8,ze9,z53,z54,z16,z14,z15,z50,z51,z52,z19,z18,z17,z59,z5c,z58,z2j,z22,z1p,z5h,z5i,z5g,z1r,z1t,z1q,z2p,z2q,z56,z57,z55,z4p,z4q,z4o,z1b,z1a,z06,z04,z07,z03,z05,z30,z32,z33,z5a,z5b,z2b,z28,z2a,z29,z09,z23,z25,z24,z2r,z4s,z4u,z4v,z4r,z4w,z4t,z00,z01,z1s,z0g,z0i,z0k,z0a,z0d,z0b,z0l,z0e,z0f,z0h,z0j,z0m,z6a,z6b,z68,z69,z6e,z67,z6j,z6i,z6c,z6d,z6g,z6h,z0c,z5m,z5n,z5o,z5p,z5q,z5k,z5l,z5w,z5j,z66,z5r,z5s,z5t,z5u,z5v,z5x,z5y,z5z,z60,z61,z62,z63,z64,z65,z6f,z1o,z12,z11,z0v,z0o,z0w,z0p,z0x,z0q,z0y,z0r,z0z,z0s,z10,z0t,z6l,z6k,z0u,z0n,zcg,zce,zax,zau,z7p,z7m,z96,z94,zch,zcf,cP,Try.f98,zoz,zp0,z3n,zos,true_or,or_true,or_false,false_or,zow,zox,zoq,Int.reduceToNat,Int.reduceLT,Int.reduceLE,Int.cast_ofNat_Int,zof,zot,Nat.reduceEqDiff,↓reduceIte,Nat.reduceAdd,zof,zot,zod,zoe,zp1,zp2,zp3,zou,reduceCtorEq,zop,zov,zol,true_and,and_true,zoh,zoi,Nat.reduceLT,Nat.reduceLeDiff,zp4,if_true,if_false,zog,not_true_eq_false,not_false_eq_true,zp5,zor,zp6,zp7,forall_const,true_implies,false_implies,implies_true,decide_eq_true_eq,decide_eq_false_iff_not,zp8,zp9,zpa,eq_self]
  ((repeat' first | (refine And.intro ?_ ?_) | (intro _)) <;> try omega)
  · rename_i h
    exact fin_0 rfl (by rw [maxM, if_pos h])
  · rename_i h
    exact fin_0 rfl (by rw [maxM, if_neg h])
theorem l00Max_at (x y : Int) (H : Heap) : ACall Cx.P [] 98 [.int .i64 x, .int .i64 y] H (.int .i64 (maxM x y)) H := (l00Max_c x y).at0 rfl rfl H
end Go.Proofs.Ytlfhpibbmgjgnaa
