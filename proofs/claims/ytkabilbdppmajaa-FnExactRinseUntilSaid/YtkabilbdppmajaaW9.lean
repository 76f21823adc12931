/- Contracts of functions of the program, by the texts that it imports. No conditions. -/
import Derived.Test.YtkabilbdppmajaaW6
import Derived.Test.YtkabilbdppmajaaInkGe
set_option linter.unusedVariables false
set_option linter.unusedSimpArgs false
namespace Go.Proofs.Ytkabilbdppmajaa
open Ink Go
open Bool renaming false_eq_true → zuh, not_true → zus, not_false → zv6, true_eq_false → zv7, not_eq_true → zv8, not_eq_false → zv9, not_eq_eq_eq_not → zva
open Int renaming toNat_natCast → zur, add_zero → zvb, zero_add → zvc
open List renaming length_append → zue, cons_append → zuf, length_cons → zug, set_cons_zero → zui, set_cons_succ → zuj, take_succ_cons → zun, drop_succ_cons → zuo, drop_zero → zup, map_cons → zuq, length_nil → zuu, map_nil → zuw, mem_cons → zux, not_mem_nil → zuy, replicate_zero → zuz, replicate_succ → zv0, nil_append → zv1, getElem?_cons_zero → zv2, getElem?_cons_succ → zv3, prefix_rfl → zve, prefix_refl → zvf, nil_prefix → zvg, take_zero → zvh, getD_cons_zero → zvj, getD_cons_succ → zvk
open Nat renaming add_zero → zuk, sub_zero → zul, zero_le → zut, zero_add → zuv, le_refl → zv4, mul_zero → zvd, not_lt_zero → zvi, sub_self → zvl
open Option renaming map_some → zum, isSome_some → zv5
set_option maxRecDepth 100000
set_option linter.all false
theorem l00Max_c (x y : Int) : ACall Cx.P [] 119 [.int .i64 x, .int .i64 y] [] (.int .i64 (maxM x y)) [] := by
  refine acall_of_code Cx_ok Try.func119 rfl (by kernel_rfl) rfl (by kernel_rfl) (by simp) ?_
  simp only [z02,z2i,z2m,z2l,z2k,z2j,z3c,z4c,z4b,z2o,z2n,z1x,z1w,z39,z28,z24,z22,z27,z25,z26,z23,z3k,z3q,z3r,z3s,z3n,z3m,z3o,z3l,z3h,z3i,z3t,z3u,z3f,z3g,z40,z3p,z08,z3z,z3y,z3j,z2p,z2u,z2v,z2t,z2z,z30,z2y,z1l,z1m,z2e,z2d,z3b,z18,z4d,z0z,z1n,z1o,z38,z4s,z3d,z19,z3e,z4r,z2c,z2b,z2x,z3v,z3w,z3x,z41,z37,z36,z2w,z2a,z1q,z1r,z1p,z31,z34,z33,z35,z32,z1e,z1c,z1d,z1a,z1b,zcs,zcq,zcr,z4h,z4i,z12,z10,z11,z4e,z4f,z4g,z15,z14,z13,z4n,z4q,z4m,z29,z1s,z1g,z4u,z4v,z4t,z1i,z1k,z1h,z2f,z2g,z4k,z4l,z4j,z43,z44,z42,z17,z16,z06,z04,z07,z03,z05,z2q,z2r,z2s,z4o,z4p,z21,z1y,z20,z1z,z09,z1t,z1v,z1u,z2h,z46,z48,z49,z45,z4a,z47,z00,z01,z1j,z0g,z0i,z0k,z0a,z0d,z0b,z0l,z0e,z0f,z0h,z0j,z0m,z5n,z5o,z5l,z5m,z5r,z5k,z5v,z5u,z5p,z5q,z5s,z5t,z0c,z4z,z50,z51,z52,z53,z4x,z4y,z59,z4w,z5j,z54,z55,z56,z57,z58,z5a,z5b,z5c,z5d,z5e,z5f,z5g,z5h,z5i,z1f,z0y,z0x,z0t,z0o,z0u,z0p,z0v,z0q,z0w,z0r,z62,z5y,z63,z5z,z61,z5x,zaa,za9,z85,z0s,z0n,zay,zax,z84,z83,zaw,zav,zak,zaj,cP,Try.f119,zuz,zv0,z3a,zut,true_or,or_true,or_false,false_or,zux,zuy,zur,Int.reduceToNat,Int.reduceLT,Int.reduceLE,Int.cast_ofNat_Int,zug,zuu,Nat.reduceEqDiff,↓reduceIte,Nat.reduceAdd,zug,zuu,zue,zuf,zv1,zv2,zv3,zuv,reduceCtorEq,zuq,zuw,zum,true_and,and_true,zui,zuj,Nat.reduceLT,Nat.reduceLeDiff,zv4,if_true,if_false,zuh,not_true_eq_false,not_false_eq_true,zv5,zus,zv6,zv7,forall_const,true_implies,false_implies,implies_true,decide_eq_true_eq,decide_eq_false_iff_not,zv8,zv9,zva,eq_self]
  ((repeat' first | (refine And.intro ?_ ?_) | (intro _)) <;> try omega)
  · rename_i h
    exact fin_0 rfl (by rw [maxM, if_pos h])
  · rename_i h
    exact fin_0 rfl (by rw [maxM, if_neg h])
theorem l00Max_at (x y : Int) (H : Heap) : ACall Cx.P [] 119 [.int .i64 x, .int .i64 y] H (.int .i64 (maxM x y)) H := (l00Max_c x y).at0 rfl rfl H
end Go.Proofs.Ytkabilbdppmajaa
