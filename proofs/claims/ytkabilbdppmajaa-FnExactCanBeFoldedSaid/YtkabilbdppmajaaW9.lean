/- Contracts of functions of the program, by the texts that it imports. No conditions. -/
import Derived.Test.YtkabilbdppmajaaW6
import Derived.Test.YtkabilbdppmajaaInkGe
set_option linter.unusedVariables false
set_option linter.unusedSimpArgs false
namespace Go.Proofs.Ytkabilbdppmajaa
open Ink Go
open Bool renaming false_eq_true → zud, not_true → zuo, not_false → zv2, true_eq_false → zv3, not_eq_true → zv4, not_eq_false → zv5, not_eq_eq_eq_not → zv6
open Int renaming toNat_natCast → zun, add_zero → zv7, zero_add → zv8
open List renaming length_append → zua, cons_append → zub, length_cons → zuc, set_cons_zero → zue, set_cons_succ → zuf, take_succ_cons → zuj, drop_succ_cons → zuk, drop_zero → zul, map_cons → zum, length_nil → zuq, map_nil → zus, mem_cons → zut, not_mem_nil → zuu, replicate_zero → zuv, replicate_succ → zuw, nil_append → zux, getElem?_cons_zero → zuy, getElem?_cons_succ → zuz, prefix_rfl → zva, prefix_refl → zvb, nil_prefix → zvc, take_zero → zvd, getD_cons_zero → zvf, getD_cons_succ → zvg
open Nat renaming add_zero → zug, sub_zero → zuh, zero_le → zup, zero_add → zur, le_refl → zv0, mul_zero → zv9, not_lt_zero → zve, sub_self → zvh
open Option renaming map_some → zui, isSome_some → zv1
set_option maxRecDepth 100000
set_option linter.all false
theorem l00Max_c (x y : Int) : ACall Cx.P [] 119 [.int .i64 x, .int .i64 y] [] (.int .i64 (maxM x y)) [] := by
  refine acall_of_code Cx_ok Try.func119 rfl (by kernel_rfl) rfl (by kernel_rfl) (by simp) ?_
  simp only [z02,z2k,z2o,z2n,z2m,z2l,z3e,z4e,z4d,z2q,z2p,z1z,z1y,z3b,z2a,z26,z24,z29,z27,z28,z25,z3m,z3s,z3t,z3u,z3p,z3o,z3q,z3n,z3j,z3k,z3v,z3w,z3h,z3i,z42,z3r,z08,z41,z40,z3l,z2r,z2w,z2x,z2v,z31,z32,z30,z1n,z1o,z2g,z2f,z3d,z1a,z4f,z11,z1p,z1q,z3a,z4u,z3f,z1b,z3g,z4t,z2e,z2d,z2z,z3x,z3y,z3z,z43,z39,z38,z2y,z2c,z1s,z1t,z1r,z33,z36,z35,z37,z34,z1g,z1e,z1f,z1c,z1d,zh6,zh4,zh5,z4j,z4k,z14,z12,z13,z4g,z4h,z4i,z17,z16,z15,z4p,z4s,z4o,z2b,z1u,z1i,z4w,z4x,z4v,z1k,z1m,z1j,z2h,z2i,z4m,z4n,z4l,z45,z46,z44,z19,z18,z06,z04,z07,z03,z05,z2s,z2t,z2u,z4q,z4r,z23,z20,z22,z21,z09,z1v,z1x,z1w,z2j,z48,z4a,z4b,z47,z4c,z49,z00,z01,z1l,z0g,z0i,z0k,z0a,z0d,z0b,z0l,z0e,z0f,z0h,z0j,z0m,z5p,z5q,z5n,z5o,z5t,z5m,z5x,z5w,z5r,z5s,z5u,z5v,z0c,z51,z52,z53,z54,z55,z4z,z50,z5b,z4y,z5l,z56,z57,z58,z59,z5a,z5c,z5d,z5e,z5f,z5g,z5h,z5i,z5j,z5k,z1h,z10,z0z,z0u,z0o,z0v,z0p,z0w,z0q,z0x,z0r,z0y,z0s,z5z,z5y,z61,z60,zbh,zbg,z9e,z0t,z0n,zbe,zbc,z9d,z9c,zb2,zb1,zbl,zbj,cP,Try.f119,zuv,zuw,z3c,zup,true_or,or_true,or_false,false_or,zut,zuu,zun,Int.reduceToNat,Int.reduceLT,Int.reduceLE,Int.cast_ofNat_Int,zuc,zuq,Nat.reduceEqDiff,↓reduceIte,Nat.reduceAdd,zuc,zuq,zua,zub,zux,zuy,zuz,zur,reduceCtorEq,zum,zus,zui,true_and,and_true,zue,zuf,Nat.reduceLT,Nat.reduceLeDiff,zv0,if_true,if_false,zud,not_true_eq_false,not_false_eq_true,zv1,zuo,zv2,zv3,forall_const,true_implies,false_implies,implies_true,decide_eq_true_eq,decide_eq_false_iff_not,zv4,zv5,zv6,eq_self]
  ((repeat' first | (refine And.intro ?_ ?_) | (intro _)) <;> try omega)
  · rename_i h
    exact fin_0 rfl (by rw [maxM, if_pos h])
  · rename_i h
    exact fin_0 rfl (by rw [maxM, if_neg h])
theorem l00Max_at (x y : Int) (H : Heap) : ACall Cx.P [] 119 [.int .i64 x, .int .i64 y] H (.int .i64 (maxM x y)) H := (l00Max_c x y).at0 rfl rfl H
end Go.Proofs.Ytkabilbdppmajaa
