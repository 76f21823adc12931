/- Contracts of functions of the program, by the texts that it imports. No conditions. -/
import Derived.Test.YtkabilbdppmajaaW6
import Derived.Test.YtkabilbdppmajaaInkGe
set_option linter.unusedVariables false
set_option linter.unusedSimpArgs false
namespace Go.Proofs.Ytkabilbdppmajaa
open Ink Go
open Bool renaming false_eq_true → zmd, not_true → zmo, not_false → zn2, true_eq_false → zn3, not_eq_true → zn4, not_eq_false → zn5, not_eq_eq_eq_not → zn6
open Int renaming toNat_natCast → zmn, add_zero → zn7, zero_add → zn8
open List renaming length_append → zma, cons_append → zmb, length_cons → zmc, set_cons_zero → zme, set_cons_succ → zmf, take_succ_cons → zmj, drop_succ_cons → zmk, drop_zero → zml, map_cons → zmm, length_nil → zmq, map_nil → zms, replicate_zero → zmt, replicate_succ → zmu, mem_cons → zmv, not_mem_nil → zmw, nil_append → zmx, getElem?_cons_zero → zmy, getElem?_cons_succ → zmz, prefix_rfl → zna, prefix_refl → znb, nil_prefix → znc, take_zero → znd, getD_cons_zero → znf, getD_cons_succ → zng
open Nat renaming add_zero → zmg, sub_zero → zmh, zero_le → zmp, zero_add → zmr, le_refl → zn0, mul_zero → zn9, not_lt_zero → zne, sub_self → znh
open Option renaming map_some → zmi, isSome_some → zn1
set_option maxRecDepth 100000
set_option linter.all false
theorem l00Max_c (x y : Int) : ACall Cx.P [] 119 [.int .i64 x, .int .i64 y] [] (.int .i64 (maxM x y)) [] := by
  refine acall_of_code Cx_ok Try.func119 rfl (by kernel_rfl) rfl (by kernel_rfl) (by simp) ?_
  simp only [z02,z2g,z2k,z2j,z2i,z2h,z3a,z4a,z49,z2m,z2l,z1v,z1u,z37,z26,z22,z20,z25,z23,z24,z21,z3i,z3o,z3p,z3q,z3l,z3k,z3m,z3j,z3f,z3g,z3r,z3s,z3d,z3e,z3y,z3n,z08,z3x,z3w,z3h,z2n,z2s,z2t,z2r,z2x,z2y,z2w,z1j,z1k,z2c,z2b,z39,z16,z4b,z0x,z1l,z1m,z36,z4q,z3b,z17,z3c,z4p,z2a,z29,z2v,z3t,z3u,z3v,z3z,z35,z34,z2u,z28,z1o,z1p,z1n,z2z,z32,z31,z33,z30,z1c,z1a,z1b,z18,z19,ze3,ze1,ze2,z4f,z4g,z10,z0y,z0z,z4c,z4d,z4e,z13,z12,z11,z4l,z4o,z4k,z27,z1q,z1e,z4s,z4t,z4r,z1g,z1i,z1f,z2d,z2e,z4i,z4j,z4h,z41,z42,z40,z15,z14,z06,z04,z07,z03,z05,z2o,z2p,z2q,z4m,z4n,z1z,z1w,z1y,z1x,z09,z1r,z1t,z1s,z2f,z44,z46,z47,z43,z48,z45,z00,z01,z1h,z0g,z0i,z0k,z0a,z0d,z0b,z0l,z0e,z0f,z0h,z0j,z0m,z5l,z5m,z5j,z5k,z5p,z5i,z5t,z5s,z5n,z5o,z5q,z5r,z0c,z4x,z4y,z4z,z50,z51,z4v,z4w,z57,z4u,z5h,z52,z53,z54,z55,z56,z58,z59,z5a,z5b,z5c,z5d,z5e,z5f,z5g,z1d,z0w,z0v,z0s,z0o,z0t,z0p,z0u,z0q,z5w,z5u,z5x,z5v,z5z,z5y,z61,z60,za7,za6,z9r,z0r,z0n,za5,za4,z9q,z9p,za1,za0,za9,za8,cP,Try.f119,zmt,zmu,z38,zmp,true_or,or_true,or_false,false_or,zmv,zmw,zmn,Int.reduceToNat,Int.reduceLT,Int.reduceLE,Int.cast_ofNat_Int,zmc,zmq,Nat.reduceEqDiff,↓reduceIte,Nat.reduceAdd,zmc,zmq,zma,zmb,zmx,zmy,zmz,zmr,reduceCtorEq,zmm,zms,zmi,true_and,and_true,zme,zmf,Nat.reduceLT,Nat.reduceLeDiff,zn0,if_true,if_false,zmd,not_true_eq_false,not_false_eq_true,zn1,zmo,zn2,zn3,forall_const,true_implies,false_implies,implies_true,decide_eq_true_eq,decide_eq_false_iff_not,zn4,zn5,zn6,eq_self]
  ((repeat' first | (refine And.intro ?_ ?_) | (intro _)) <;> try omega)
  · rename_i h
    exact fin_0 rfl (by rw [maxM, if_pos h])
  · rename_i h
    exact fin_0 rfl (by rw [maxM, if_neg h])
theorem l00Max_at (x y : Int) (H : Heap) : ACall Cx.P [] 119 [.int .i64 x, .int .i64 y] H (.int .i64 (maxM x y)) H := (l00Max_c x y).at0 rfl rfl H
end Go.Proofs.Ytkabilbdppmajaa
