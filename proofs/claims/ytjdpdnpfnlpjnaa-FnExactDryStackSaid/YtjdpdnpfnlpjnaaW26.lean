/- Contracts of functions of the program, by the texts that it imports. No conditions. -/
import Derived.Test.YtjdpdnpfnlpjnaaW9
import Derived.Test.YtjdpdnpfnlpjnaaInkGg
set_option linter.unusedVariables false
set_option linter.unusedSimpArgs false
namespace Go.Proofs.Ytjdpdnpfnlpjnaa
open Ink Go
open Bool renaming false_eq_true → zjd, not_true → zjo, not_false → zk2, true_eq_false → zk3, not_eq_true → zk4, not_eq_false → zk5, not_eq_eq_eq_not → zk6
open Int renaming toNat_natCast → zjn, add_zero → zk7, zero_add → zk8
open List renaming length_append → zja, cons_append → zjb, length_cons → zjc, set_cons_zero → zje, set_cons_succ → zjf, take_succ_cons → zjj, drop_succ_cons → zjk, drop_zero → zjl, map_cons → zjm, length_nil → zjq, replicate_zero → zjs, replicate_succ → zjt, mem_cons → zju, not_mem_nil → zjv, nil_append → zjw, getElem?_cons_zero → zjx, getElem?_cons_succ → zjy, map_nil → zjz, prefix_rfl → zka, prefix_refl → zkb, nil_prefix → zkc, take_zero → zkd, getD_cons_zero → zkf, getD_cons_succ → zkg
open Nat renaming add_zero → zjg, sub_zero → zjh, zero_le → zjp, zero_add → zjr, le_refl → zk0, mul_zero → zk9, not_lt_zero → zke, sub_self → zkh
open Option renaming map_some → zji, isSome_some → zk1
set_option maxRecDepth 100000
set_option linter.all false
theorem l00Min_c (x y : Int) : ACall Cx.P [] 151 [.int .i64 x, .int .i64 y] [] (.int .i64 (minM x y)) [] := by
  refine acall_of_code Cx_ok Try.func151 rfl (by kernel_rfl) rfl (by kernel_rfl) (by simp) ?_
  simp only [z02,z2l,z2p,z2o,z2n,z2m,z3f,z4f,z4e,z2r,z2q,z20,z1z,z3c,z2b,z27,z25,z2a,z28,z29,z26,z3n,z3t,z3u,z3v,z3q,z3p,z3r,z3o,z3k,z3l,z3w,z3x,z3i,z3j,z43,z3s,z08,z42,z41,z3m,z2s,z2x,z2y,z2w,z32,z33,z31,z1o,z1p,z2h,z2g,z3e,z19,z4g,z10,z1q,z1r,z3b,z4v,z3g,z1a,z3h,z4u,z2f,z2e,z30,z3y,z3z,z40,z44,z3a,z39,z2z,z2d,z1t,z1u,z1s,z34,z37,z36,z38,z35,z1f,z1g,z1h,z1d,z1e,z1b,z1c,z6l,z6j,z6k,z4k,z4l,z13,z11,z12,z4h,z4i,z4j,z16,z15,z14,z4q,z4t,z4p,z2c,z1v,z1j,z4x,z4y,z4w,z1l,z1n,z1k,z2i,z2j,z4n,z4o,z4m,z46,z47,z45,z18,z17,z06,z04,z07,z03,z05,z2t,z2u,z2v,z4r,z4s,z24,z21,z23,z22,z09,z1w,z1y,z1x,z2k,z49,z4b,z4c,z48,z4d,z4a,z00,z01,z1m,z0f,z0h,z0j,z0a,z0c,z0b,z0k,z0d,z0e,z0g,z0i,z0l,z5r,z5s,z5p,z5q,z5v,z5o,z5z,z5y,z5t,z5u,z5w,z5x,z5n,z52,z53,z54,z55,z56,z50,z51,z5c,z4z,z5m,z57,z58,z59,z5a,z5b,z5d,z5e,z5f,z5g,z5h,z5i,z5j,z5k,z5l,z1i,z0z,z0y,z0t,z0n,z0u,z0o,z0v,z0p,z0w,z0q,z0x,z0r,z61,z60,z63,z62,z8r,z0s,z0m,z85,z84,z8y,z8u,z8z,z8v,z8q,z8p,cP,Try.f151,zjs,zjt,z3d,zjp,true_or,or_true,or_false,false_or,zju,zjv,zjn,Int.reduceToNat,Int.reduceLT,Int.reduceLE,Int.cast_ofNat_Int,zjc,zjq,Nat.reduceEqDiff,↓reduceIte,Nat.reduceAdd,zjc,zjq,zja,zjb,zjw,zjx,zjy,zjr,reduceCtorEq,zjm,zjz,zji,true_and,and_true,zje,zjf,Nat.reduceLT,Nat.reduceLeDiff,zk0,if_true,if_false,zjd,not_true_eq_false,not_false_eq_true,zk1,zjo,zk2,zk3,forall_const,true_implies,false_implies,implies_true,decide_eq_true_eq,decide_eq_false_iff_not,zk4,zk5,zk6,eq_self]
  ((repeat' first | (refine And.intro ?_ ?_) | (intro _)) <;> try omega)
  · rename_i h
    exact fin_0 rfl (by rw [minM, if_pos h])
  · rename_i h
    exact fin_0 rfl (by rw [minM, if_neg h])
theorem l00Min_at (x y : Int) (H : Heap) : ACall Cx.P [] 151 [.int .i64 x, .int .i64 y] H (.int .i64 (minM x y)) H := (l00Min_c x y).at0 rfl rfl H
end Go.Proofs.Ytjdpdnpfnlpjnaa
