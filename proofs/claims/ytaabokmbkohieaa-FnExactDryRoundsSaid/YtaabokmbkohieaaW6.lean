/- Contracts of functions of the program, by the texts that it imports. No conditions. -/
import Derived.Test.YtaabokmbkohieaaW5
import Derived.Test.YtaabokmbkohieaaW3
import Derived.Test.YtaabokmbkohieaaW2
set_option linter.unusedVariables false
set_option linter.unusedSimpArgs false
namespace Go.Proofs.Ytaabokmbkohieaa
open Ink Go
open Bool renaming false_eq_true → zmy, not_true → zn9, not_false → znn, true_eq_false → zno, not_eq_true → znp, not_eq_false → znq, not_eq_eq_eq_not → znr
open Int renaming toNat_natCast → zn8, add_zero → zns, zero_add → znt
open List renaming length_append → zmv, cons_append → zmw, length_cons → zmx, set_cons_zero → zmz, set_cons_succ → zn0, take_succ_cons → zn4, drop_succ_cons → zn5, drop_zero → zn6, map_cons → zn7, length_nil → znb, map_nil → znd, mem_cons → zne, not_mem_nil → znf, replicate_zero → zng, replicate_succ → znh, nil_append → zni, getElem?_cons_zero → znj, getElem?_cons_succ → znk, prefix_rfl → znv, prefix_refl → znw, nil_prefix → znx, take_zero → zny, getD_cons_zero → zo0, getD_cons_succ → zo1
open Nat renaming add_zero → zn1, sub_zero → zn2, zero_le → zna, zero_add → znc, le_refl → znl, mul_zero → znu, not_lt_zero → znz, sub_self → zo2
open Option renaming map_some → zn3, isSome_some → znm
set_option maxRecDepth 100000
set_option linter.all false
theorem code_c (s : SheetM) (r : Bool) (hs : s.Ok) : ACall Cx.P [] 66 [.ptr 0 [] shSheet, .bool r] [.data shSheet (sheetD s)] (.int .i64 (codeM s r)) [.data shSheet (sheetD s)] := by
  refine acall_of_code Cx_ok Try.func66 rfl (by kernel_rfl) rfl (by kernel_rfl) (by simp) ?_
  simp only [z02,z2f,z2j,z2i,z2h,z2g,z36,z42,z41,z2l,z2k,z1u,z1t,z33,z25,z21,z1z,z24,z22,z23,z20,z3e,z3k,z3l,z3m,z3h,z3g,z3i,z3f,z3b,z3c,z3n,z3o,z39,z3a,z3r,z3j,z08,z3q,z3p,z3d,z2m,z2q,z2r,z2p,z2v,z2w,z2u,z1i,z1j,z2b,z2a,z35,z15,z43,z0z,z1k,z1l,z32,z4f,z37,z16,z38,z4e,z29,z28,z2t,z2s,z27,z1n,z1o,z1m,z2x,z30,z2z,z31,z2y,z1b,z19,z1a,z17,z18,z44,z45,z12,z11,z10,z4a,z4d,z49,z26,z1p,z1d,z4h,z4i,z4g,z1f,z1h,z1e,z2c,z2d,z47,z48,z46,z3t,z3u,z3s,z14,z13,z06,z04,z07,z03,z05,z2n,z2o,z4b,z4c,z1y,z1v,z1x,z1w,z09,z1q,z1s,z1r,z2e,z3w,z3y,z3z,z3v,z40,z3x,z00,z01,z1g,z0g,z0i,z0k,z0a,z0d,z0b,z0l,z0e,z0f,z0h,z0j,z0m,z5a,z5b,z58,z59,z5e,z57,z5i,z5h,z5c,z5d,z5f,z5g,z0c,z4m,z4n,z4o,z4p,z4q,z4k,z4l,z4w,z4j,z56,z4r,z4s,z4t,z4u,z4v,z4x,z4y,z4z,z50,z51,z52,z53,z54,z55,z1c,z0y,z0x,z0t,z0o,z0u,z0p,z0v,z0q,z0w,z0r,z5l,z5j,z5m,z5k,z5o,z5n,z5q,z5p,z5s,z5r,z6h,z6g,zd2,z0s,z0n,z7w,z7v,zaj,zah,zgr,zg8,zdq,zdh,zeh,zee,zfr,zfm,ze6,ze1,zc8,zc6,zcz,zcs,zgf,zc9,cP,Try.f66,zng,znh,z34,zna,true_or,or_true,or_false,false_or,zne,znf,zn8,Int.reduceToNat,Int.reduceLT,Int.reduceLE,Int.cast_ofNat_Int,zmx,znb,Nat.reduceEqDiff,↓reduceIte,Nat.reduceAdd,zmx,znb,zmv,zmw,zni,znj,znk,znc,reduceCtorEq,zn7,znd,zn3,true_and,and_true,zmz,zn0,Nat.reduceLT,Nat.reduceLeDiff,znl,if_true,if_false,zmy,not_true_eq_false,not_false_eq_true,znm,zn9,znn,zno,forall_const,true_implies,false_implies,implies_true,decide_eq_true_eq,decide_eq_false_iff_not,znp,znq,znr,eq_self]
  first | refine qcall_pure (fun N => ValidSheet_at s hs _) ?_ | refine acall_pure (ValidSheet_at s hs _) ?_
  cases r
  · simp only [z02,z2f,z2j,z2i,z2h,z2g,z36,z42,z41,z2l,z2k,z1u,z1t,z33,z25,z21,z1z,z24,z22,z23,z20,z3e,z3k,z3l,z3m,z3h,z3g,z3i,z3f,z3b,z3c,z3n,z3o,z39,z3a,z3r,z3j,z08,z3q,z3p,z3d,z2m,z2q,z2r,z2p,z2v,z2w,z2u,z1i,z1j,z2b,z2a,z35,z15,z43,z0z,z1k,z1l,z32,z4f,z37,z16,z38,z4e,z29,z28,z2t,z2s,z27,z1n,z1o,z1m,z2x,z30,z2z,z31,z2y,z1b,z19,z1a,z17,z18,z44,z45,z12,z11,z10,z4a,z4d,z49,z26,z1p,z1d,z4h,z4i,z4g,z1f,z1h,z1e,z2c,z2d,z47,z48,z46,z3t,z3u,z3s,z14,z13,z06,z04,z07,z03,z05,z2n,z2o,z4b,z4c,z1y,z1v,z1x,z1w,z09,z1q,z1s,z1r,z2e,z3w,z3y,z3z,z3v,z40,z3x,z00,z01,z1g,z0g,z0i,z0k,z0a,z0d,z0b,z0l,z0e,z0f,z0h,z0j,z0m,z5a,z5b,z58,z59,z5e,z57,z5i,z5h,z5c,z5d,z5f,z5g,z0c,z4m,z4n,z4o,z4p,z4q,z4k,z4l,z4w,z4j,z56,z4r,z4s,z4t,z4u,z4v,z4x,z4y,z4z,z50,z51,z52,z53,z54,z55,z1c,z0y,z0x,z0t,z0o,z0u,z0p,z0v,z0q,z0w,z0r,z5l,z5j,z5m,z5k,z5o,z5n,z5q,z5p,z5s,z5r,z6h,z6g,zd2,z0s,z0n,z7w,z7v,zaj,zah,zgr,zg8,zdq,zdh,zeh,zee,zfr,zfm,ze6,ze1,zc8,zc6,zcz,zcs,zgf,zc9,cP,Try.f66,zng,znh,z34,zna,true_or,or_true,or_false,false_or,zne,znf,zn8,Int.reduceToNat,Int.reduceLT,Int.reduceLE,Int.cast_ofNat_Int,zmx,znb,Nat.reduceEqDiff,↓reduceIte,Nat.reduceAdd,zmx,znb,zmv,zmw,zni,znj,znk,znc,reduceCtorEq,zn7,znd,zn3,true_and,and_true,zmz,zn0,Nat.reduceLT,Nat.reduceLeDiff,znl,if_true,if_false,zmy,not_true_eq_false,not_false_eq_true,znm,zn9,znn,zno,forall_const,true_implies,false_implies,implies_true,decide_eq_true_eq,decide_eq_false_iff_not,znp,znq,znr,eq_self]
    ((repeat' first | (refine And.intro ?_ ?_) | (intro _)) <;> try omega)
    · rename_i hv
      exact fin_1 rfl rfl (congrArg (AV.int _) (by simp [codeM, hv]))
    · rename_i hv
      exact fin_1 rfl rfl (congrArg (AV.int _) (by simp [codeM, hv]))
  · simp only [z02,z2f,z2j,z2i,z2h,z2g,z36,z42,z41,z2l,z2k,z1u,z1t,z33,z25,z21,z1z,z24,z22,z23,z20,z3e,z3k,z3l,z3m,z3h,z3g,z3i,z3f,z3b,z3c,z3n,z3o,z39,z3a,z3r,z3j,z08,z3q,z3p,z3d,z2m,z2q,z2r,z2p,z2v,z2w,z2u,z1i,z1j,z2b,z2a,z35,z15,z43,z0z,z1k,z1l,z32,z4f,z37,z16,z38,z4e,z29,z28,z2t,z2s,z27,z1n,z1o,z1m,z2x,z30,z2z,z31,z2y,z1b,z19,z1a,z17,z18,z44,z45,z12,z11,z10,z4a,z4d,z49,z26,z1p,z1d,z4h,z4i,z4g,z1f,z1h,z1e,z2c,z2d,z47,z48,z46,z3t,z3u,z3s,z14,z13,z06,z04,z07,z03,z05,z2n,z2o,z4b,z4c,z1y,z1v,z1x,z1w,z09,z1q,z1s,z1r,z2e,z3w,z3y,z3z,z3v,z40,z3x,z00,z01,z1g,z0g,z0i,z0k,z0a,z0d,z0b,z0l,z0e,z0f,z0h,z0j,z0m,z5a,z5b,z58,z59,z5e,z57,z5i,z5h,z5c,z5d,z5f,z5g,z0c,z4m,z4n,z4o,z4p,z4q,z4k,z4l,z4w,z4j,z56,z4r,z4s,z4t,z4u,z4v,z4x,z4y,z4z,z50,z51,z52,z53,z54,z55,z1c,z0y,z0x,z0t,z0o,z0u,z0p,z0v,z0q,z0w,z0r,z5l,z5j,z5m,z5k,z5o,z5n,z5q,z5p,z5s,z5r,z6h,z6g,zd2,z0s,z0n,z7w,z7v,zaj,zah,zgr,zg8,zdq,zdh,zeh,zee,zfr,zfm,ze6,ze1,zc8,zc6,zcz,zcs,zgf,zc9,cP,Try.f66,zng,znh,z34,zna,true_or,or_true,or_false,false_or,zne,znf,zn8,Int.reduceToNat,Int.reduceLT,Int.reduceLE,Int.cast_ofNat_Int,zmx,znb,Nat.reduceEqDiff,↓reduceIte,Nat.reduceAdd,zmx,znb,zmv,zmw,zni,znj,znk,znc,reduceCtorEq,zn7,znd,zn3,true_and,and_true,zmz,zn0,Nat.reduceLT,Nat.reduceLeDiff,znl,if_true,if_false,zmy,not_true_eq_false,not_false_eq_true,znm,zn9,znn,zno,forall_const,true_implies,false_implies,implies_true,decide_eq_true_eq,decide_eq_false_iff_not,znp,znq,znr,eq_self]
    ((repeat' first | (refine And.intro ?_ ?_) | (intro _)) <;> try omega)
    · rename_i hv
      exact fin_1 rfl rfl (congrArg (AV.int _) (by simp [codeM, hv]))
    · rename_i hv
      exact fin_1 rfl rfl (congrArg (AV.int _) (by simp [codeM, hv]))
theorem code_at (s : SheetM) (r : Bool) (hs : s.Ok) {H : Heap} {b : Nat} (hb : H[b]? = some (.data shSheet (sheetD s))) : ACall Cx.P [] 66 [.ptr b [] shSheet, .bool r] H (.int .i64 (codeM s r)) H :=
  (code_c s r hs).at1 rfl hb (by simp [inScopes, inScope]) (by simp [rens, ren, kap]) rfl
end Go.Proofs.Ytaabokmbkohieaa
