/- Contracts of functions of the program, by the texts that it imports. No conditions. -/
import Derived.Test.YtaabokmbkohieaaW5
import Derived.Test.YtaabokmbkohieaaW3
import Derived.Test.YtaabokmbkohieaaW2
set_option linter.unusedVariables false
set_option linter.unusedSimpArgs false
namespace Go.Proofs.Ytaabokmbkohieaa
open Ink Go
open Bool renaming false_eq_true → zmy, not_true → zn9, not_false → znn, true_eq_false → zno, not_eq_true → znp, not_eq_false → znq, not_eq_eq_eq_not → znr
open Int renaming toNat_natCast → zn8, add_zero → zns, zero_add → znt
open List renaming length_append → zmv, cons_append → zmw, length_cons → zmx, set_cons_zero → zmz, set_cons_succ → zn0, take_succ_cons → zn4, drop_succ_cons → zn5, drop_zero → zn6, map_cons → zn7, length_nil → znb, map_nil → znd, mem_cons → zne, not_mem_nil → znf, replicate_zero → zng, replicate_succ → znh, nil_append → zni, getElem?_cons_zero → znj, getElem?_cons_succ → znk, prefix_rfl → znv, prefix_refl → znw, nil_prefix → znx, take_zero → zny, getD_cons_zero → zo0, getD_cons_succ → zo1
open Nat renaming add_zero → zn1, sub_zero → zn2, zero_le → zna, zero_add → znc, le_refl → znl, mul_zero → znu, not_lt_zero → znz, sub_self → zo2
open Option renaming map_some → zn3, isSome_some → znm
set_option maxRecDepth 100000
set_option linter.all false
theorem code_c (s : SheetM) (r : Bool) (hs : s.Ok) : ACall Cx.P [] 66 [.ptr 0 [] shSheet, .bool r] [.data shSheet (sheetD s)] (.int .i64 (codeM s r)) [.data shSheet (sheetD s)] := by
  refine acall_of_code Cx_ok Try.func66 rfl (by kernel_rfl) rfl (by kernel_rfl) (by simp) ?_
  simp only [z02,z2j,z2n,z2m,z2l,z2k,z3a,z46,z45,z2p,z2o,z1y,z1x,z37,z29,z25,z23,z28,z26,z27,z24,z3i,z3o,z3p,z3q,z3l,z3k,z3m,z3j,z3f,z3g,z3r,z3s,z3d,z3e,z3v,z3n,z08,z3u,z3t,z3h,z2q,z2u,z2v,z2t,z2z,z30,z2y,z1m,z1n,z2f,z2e,z39,z19,z47,z13,z1o,z1p,z36,z4j,z3b,z1a,z3c,z4i,z2d,z2c,z2x,z2w,z2b,z1r,z1s,z1q,z31,z34,z33,z35,z32,z1f,z1d,z1e,z1b,z1c,z48,z49,z16,z15,z14,z4e,z4h,z4d,z2a,z1t,z1h,z4l,z4m,z4k,z1j,z1l,z1i,z2g,z2h,z4b,z4c,z4a,z3x,z3y,z3w,z18,z17,z06,z04,z07,z03,z05,z2r,z2s,z4f,z4g,z22,z1z,z21,z20,z09,z1u,z1w,z1v,z2i,z40,z42,z43,z3z,z44,z41,z00,z01,z1k,z0g,z0i,z0k,z0a,z0d,z0b,z0l,z0e,z0f,z0h,z0j,z0m,z5e,z5f,z5c,z5d,z5i,z5b,z5m,z5l,z5g,z5h,z5j,z5k,z0c,z4q,z4r,z4s,z4t,z4u,z4o,z4p,z50,z4n,z5a,z4v,z4w,z4x,z4y,z4z,z51,z52,z53,z54,z55,z56,z57,z58,z59,z1g,z12,z11,z0v,z0o,z0w,z0p,z0x,z0q,z0y,z0r,z0z,z0s,z10,z0t,z5o,z5n,z5r,z5p,z5s,z5q,z66,z65,zdd,z0u,z0n,z7f,z76,zb0,zaz,zg9,zfm,zga,zfn,zgb,zfo,zgc,zfp,zgd,zfq,zdb,zd7,zdc,zd8,zfy,zbx,cP,Try.f66,zng,znh,z38,zna,true_or,or_true,or_false,false_or,zne,znf,zn8,Int.reduceToNat,Int.reduceLT,Int.reduceLE,Int.cast_ofNat_Int,zmx,znb,Nat.reduceEqDiff,↓reduceIte,Nat.reduceAdd,zmx,znb,zmv,zmw,zni,znj,znk,znc,reduceCtorEq,zn7,znd,zn3,true_and,and_true,zmz,zn0,Nat.reduceLT,Nat.reduceLeDiff,znl,if_true,if_false,zmy,not_true_eq_false,not_false_eq_true,znm,zn9,znn,zno,forall_const,true_implies,false_implies,implies_true,decide_eq_true_eq,decide_eq_false_iff_not,znp,znq,znr,eq_self]
  first | refine qcall_pure (fun N => ValidSheet_at s hs _) ?_ | refine acall_pure (ValidSheet_at s hs _) ?_
  cases r
  · simp only [z02,z2j,z2n,z2m,z2l,z2k,z3a,z46,z45,z2p,z2o,z1y,z1x,z37,z29,z25,z23,z28,z26,z27,z24,z3i,z3o,z3p,z3q,z3l,z3k,z3m,z3j,z3f,z3g,z3r,z3s,z3d,z3e,z3v,z3n,z08,z3u,z3t,z3h,z2q,z2u,z2v,z2t,z2z,z30,z2y,z1m,z1n,z2f,z2e,z39,z19,z47,z13,z1o,z1p,z36,z4j,z3b,z1a,z3c,z4i,z2d,z2c,z2x,z2w,z2b,z1r,z1s,z1q,z31,z34,z33,z35,z32,z1f,z1d,z1e,z1b,z1c,z48,z49,z16,z15,z14,z4e,z4h,z4d,z2a,z1t,z1h,z4l,z4m,z4k,z1j,z1l,z1i,z2g,z2h,z4b,z4c,z4a,z3x,z3y,z3w,z18,z17,z06,z04,z07,z03,z05,z2r,z2s,z4f,z4g,z22,z1z,z21,z20,z09,z1u,z1w,z1v,z2i,z40,z42,z43,z3z,z44,z41,z00,z01,z1k,z0g,z0i,z0k,z0a,z0d,z0b,z0l,z0e,z0f,z0h,z0j,z0m,z5e,z5f,z5c,z5d,z5i,z5b,z5m,z5l,z5g,z5h,z5j,z5k,z0c,z4q,z4r,z4s,z4t,z4u,z4o,z4p,z50,z4n,z5a,z4v,z4w,z4x,z4y,z4z,z51,z52,z53,z54,z55,z56,z57,z58,z59,z1g,z12,z11,z0v,z0o,z0w,z0p,z0x,z0q,z0y,z0r,z0z,z0s,z10,z0t,z5o,z5n,z5r,z5p,z5s,z5q,z66,z65,zdd,z0u,z0n,z7f,z76,zb0,zaz,zg9,zfm,zga,zfn,zgb,zfo,zgc,zfp,zgd,zfq,zdb,zd7,zdc,zd8,zfy,zbx,cP,Try.f66,zng,znh,z38,zna,true_or,or_true,or_false,false_or,zne,znf,zn8,Int.reduceToNat,Int.reduceLT,Int.reduceLE,Int.cast_ofNat_Int,zmx,znb,Nat.reduceEqDiff,↓reduceIte,Nat.reduceAdd,zmx,znb,zmv,zmw,zni,znj,znk,znc,reduceCtorEq,zn7,znd,zn3,true_and,and_true,zmz,zn0,Nat.reduceLT,Nat.reduceLeDiff,znl,if_true,if_false,zmy,not_true_eq_false,not_false_eq_true,znm,zn9,znn,zno,forall_const,true_implies,false_implies,implies_true,decide_eq_true_eq,decide_eq_false_iff_not,znp,znq,znr,eq_self]
    ((repeat' first | (refine And.intro ?_ ?_) | (intro _)) <;> try omega)
    · rename_i hv
      exact fin_1 rfl rfl (congrArg (AV.int _) (by simp [codeM, hv]))
    · rename_i hv
      exact fin_1 rfl rfl (congrArg (AV.int _) (by simp [codeM, hv]))
  · simp only [z02,z2j,z2n,z2m,z2l,z2k,z3a,z46,z45,z2p,z2o,z1y,z1x,z37,z29,z25,z23,z28,z26,z27,z24,z3i,z3o,z3p,z3q,z3l,z3k,z3m,z3j,z3f,z3g,z3r,z3s,z3d,z3e,z3v,z3n,z08,z3u,z3t,z3h,z2q,z2u,z2v,z2t,z2z,z30,z2y,z1m,z1n,z2f,z2e,z39,z19,z47,z13,z1o,z1p,z36,z4j,z3b,z1a,z3c,z4i,z2d,z2c,z2x,z2w,z2b,z1r,z1s,z1q,z31,z34,z33,z35,z32,z1f,z1d,z1e,z1b,z1c,z48,z49,z16,z15,z14,z4e,z4h,z4d,z2a,z1t,z1h,z4l,z4m,z4k,z1j,z1l,z1i,z2g,z2h,z4b,z4c,z4a,z3x,z3y,z3w,z18,z17,z06,z04,z07,z03,z05,z2r,z2s,z4f,z4g,z22,z1z,z21,z20,z09,z1u,z1w,z1v,z2i,z40,z42,z43,z3z,z44,z41,z00,z01,z1k,z0g,z0i,z0k,z0a,z0d,z0b,z0l,z0e,z0f,z0h,z0j,z0m,z5e,z5f,z5c,z5d,z5i,z5b,z5m,z5l,z5g,z5h,z5j,z5k,z0c,z4q,z4r,z4s,z4t,z4u,z4o,z4p,z50,z4n,z5a,z4v,z4w,z4x,z4y,z4z,z51,z52,z53,z54,z55,z56,z57,z58,z59,z1g,z12,z11,z0v,z0o,z0w,z0p,z0x,z0q,z0y,z0r,z0z,z0s,z10,z0t,z5o,z5n,z5r,z5p,z5s,z5q,z66,z65,zdd,z0u,z0n,z7f,z76,zb0,zaz,zg9,zfm,zga,zfn,zgb,zfo,zgc,zfp,zgd,zfq,zdb,zd7,zdc,zd8,zfy,zbx,cP,Try.f66,zng,znh,z38,zna,true_or,or_true,or_false,false_or,zne,znf,zn8,Int.reduceToNat,Int.reduceLT,Int.reduceLE,Int.cast_ofNat_Int,zmx,znb,Nat.reduceEqDiff,↓reduceIte,Nat.reduceAdd,zmx,znb,zmv,zmw,zni,znj,znk,znc,reduceCtorEq,zn7,znd,zn3,true_and,and_true,zmz,zn0,Nat.reduceLT,Nat.reduceLeDiff,znl,if_true,if_false,zmy,not_true_eq_false,not_false_eq_true,znm,zn9,znn,zno,forall_const,true_implies,false_implies,implies_true,decide_eq_true_eq,decide_eq_false_iff_not,znp,znq,znr,eq_self]
    ((repeat' first | (refine And.intro ?_ ?_) | (intro _)) <;> try omega)
    · rename_i hv
      exact fin_1 rfl rfl (congrArg (AV.int _) (by simp [codeM, hv]))
    · rename_i hv
      exact fin_1 rfl rfl (congrArg (AV.int _) (by simp [codeM, hv]))
theorem code_at (s : SheetM) (r : Bool) (hs : s.Ok) {H : Heap} {b : Nat} (hb : H[b]? = some (.data shSheet (sheetD s))) : ACall Cx.P [] 66 [.ptr b [] shSheet, .bool r] H (.int .i64 (codeM s r)) H :=
  (code_c s r hs).at1 rfl hb (by simp [inScopes, inScope]) (by simp [rens, ren, kap]) rfl
end Go.Proofs.Ytaabokmbkohieaa
