/- Contracts of functions of the program, by the texts that it imports. No conditions. -/
import Derived.Test.YtaabokmbkohieaaW9
import Derived.Test.YtaabokmbkohieaaInkGg
set_option linter.unusedVariables false
set_option linter.unusedSimpArgs false
namespace Go.Proofs.Ytaabokmbkohieaa
open Ink Go
open Bool renaming false_eq_true → zoh, not_true → zos, not_false → zp6, true_eq_false → zp7, not_eq_true → zp8, not_eq_false → zp9, not_eq_eq_eq_not → zpa
open Int renaming toNat_natCast → zor, add_zero → zpb, zero_add → zpc
open List renaming length_append → zoe, cons_append → zof, length_cons → zog, set_cons_zero → zoi, set_cons_succ → zoj, take_succ_cons → zon, drop_succ_cons → zoo, drop_zero → zop, map_cons → zoq, length_nil → zou, map_nil → zow, mem_cons → zox, not_mem_nil → zoy, replicate_zero → zoz, replicate_succ → zp0, nil_append → zp1, getElem?_cons_zero → zp2, getElem?_cons_succ → zp3, prefix_rfl → zpe, prefix_refl → zpf, nil_prefix → zpg, take_zero → zph, getD_cons_zero → zpj, getD_cons_succ → zpk
open Nat renaming add_zero → zok, sub_zero → zol, zero_le → zot, zero_add → zov, le_refl → zp4, mul_zero → zpd, not_lt_zero → zpi, sub_self → zpl
open Option renaming map_some → zom, isSome_some → zp5
set_option maxRecDepth 100000
set_option linter.all false
theorem l00Min_c (x y : Int) : ACall Cx.P [] 127 [.int .i64 x, .int .i64 y] [] (.int .i64 (minM x y)) [] := by
  refine acall_of_code Cx_ok Try.func127 rfl (by kernel_rfl) rfl (by kernel_rfl) (by simp) ?_
  simp only [z02,z2i,z2m,z2l,z2k,z2j,z3b,z4b,z4a,z2o,z2n,z1x,z1w,z38,z28,z24,z22,z27,z25,z26,z23,z3j,z3p,z3q,z3r,z3m,z3l,z3n,z3k,z3g,z3h,z3s,z3t,z3e,z3f,z3z,z3o,z08,z3y,z3x,z3i,z2p,z2u,z2v,z2t,z2z,z30,z2y,z1l,z1m,z2e,z2d,z3a,z18,z4c,z0z,z1n,z1o,z37,z4r,z3c,z19,z3d,z4q,z2c,z2b,z2x,z3u,z3v,z3w,z40,z36,z2w,z2a,z1q,z1r,z1p,z31,z34,z33,z35,z32,z1e,z1c,z1d,z1a,z1b,z6g,z6c,z6e,z4g,z4h,z12,z10,z11,z4d,z4e,z4f,z15,z14,z13,z4m,z4p,z4l,z29,z1s,z1g,z4t,z4u,z4s,z1i,z1k,z1h,z2f,z2g,z4j,z4k,z4i,z42,z43,z41,z17,z16,z06,z04,z07,z03,z05,z2q,z2r,z2s,z4n,z4o,z21,z1y,z20,z1z,z09,z1t,z1v,z1u,z2h,z45,z47,z48,z44,z49,z46,z00,z01,z1j,z0g,z0i,z0k,z0a,z0d,z0b,z0l,z0e,z0f,z0h,z0j,z0m,z5m,z5n,z5k,z5l,z5q,z5j,z5u,z5t,z5o,z5p,z5r,z5s,z0c,z4y,z4z,z50,z51,z52,z4w,z4x,z58,z4v,z5i,z53,z54,z55,z56,z57,z59,z5a,z5b,z5c,z5d,z5e,z5f,z5g,z5h,z1f,z0y,z0x,z0t,z0o,z0u,z0p,z0v,z0q,z0w,z0r,z5x,z5v,z5y,z5w,z60,z5z,z0s,z0n,zau,zar,zav,zas,zac,za9,cP,Try.f127,zoz,zp0,z39,zot,true_or,or_true,or_false,false_or,zox,zoy,zor,Int.reduceToNat,Int.reduceLT,Int.reduceLE,Int.cast_ofNat_Int,zog,zou,Nat.reduceEqDiff,↓reduceIte,Nat.reduceAdd,zog,zou,zoe,zof,zp1,zp2,zp3,zov,reduceCtorEq,zoq,zow,zom,true_and,and_true,zoi,zoj,Nat.reduceLT,Nat.reduceLeDiff,zp4,if_true,if_false,zoh,not_true_eq_false,not_false_eq_true,zp5,zos,zp6,zp7,forall_const,true_implies,false_implies,implies_true,decide_eq_true_eq,decide_eq_false_iff_not,zp8,zp9,zpa,eq_self]
  ((repeat' first | (refine And.intro ?_ ?_) | (intro _)) <;> try omega)
  · rename_i h
    exact fin_0 rfl (by rw [minM, if_pos h])
  · rename_i h
    exact fin_0 rfl (by rw [minM, if_neg h])
theorem l00Min_at (x y : Int) (H : Heap) : ACall Cx.P [] 127 [.int .i64 x, .int .i64 y] H (.int .i64 (minM x y)) H := (l00Min_c x y).at0 rfl rfl H
end Go.Proofs.Ytaabokmbkohieaa
