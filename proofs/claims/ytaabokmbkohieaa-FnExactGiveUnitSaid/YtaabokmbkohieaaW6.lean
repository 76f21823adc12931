/- Contracts of functions of the program, by the texts that it imports. No conditions. -/
import Derived.Test.YtaabokmbkohieaaW5
import Derived.Test.YtaabokmbkohieaaW3
import Derived.Test.YtaabokmbkohieaaW2
set_option linter.unusedVariables false
set_option linter.unusedSimpArgs false
namespace Go.Proofs.Ytaabokmbkohieaa
open Ink Go
open Bool renaming false_eq_true → zoj, not_true → zou, not_false → zp8, true_eq_false → zp9, not_eq_true → zpa, not_eq_false → zpb, not_eq_eq_eq_not → zpc
open Int renaming toNat_natCast → zot, add_zero → zpd, zero_add → zpe
open List renaming length_append → zog, cons_append → zoh, length_cons → zoi, set_cons_zero → zok, set_cons_succ → zol, take_succ_cons → zop, drop_succ_cons → zoq, drop_zero → zor, map_cons → zos, length_nil → zow, map_nil → zoy, mem_cons → zoz, not_mem_nil → zp0, replicate_zero → zp1, replicate_succ → zp2, nil_append → zp3, getElem?_cons_zero → zp4, getElem?_cons_succ → zp5, prefix_rfl → zpg, prefix_refl → zph, nil_prefix → zpi, take_zero → zpj, getD_cons_zero → zpl, getD_cons_succ → zpm
open Nat renaming add_zero → zom, sub_zero → zon, zero_le → zov, zero_add → zox, le_refl → zp6, mul_zero → zpf, not_lt_zero → zpk, sub_self → zpn
open Option renaming map_some → zoo, isSome_some → zp7
set_option maxRecDepth 100000
set_option linter.all false
theorem code_c (s : SheetM) (r : Bool) (hs : s.Ok) : ACall Cx.P [] 66 [.ptr 0 [] shSheet, .bool r] [.data shSheet (sheetD s)] (.int .i64 (codeM s r)) [.data shSheet (sheetD s)] := by
  refine acall_of_code Cx_ok Try.func66 rfl (by kernel_rfl) rfl (by kernel_rfl) (by simp) ?_
  simp only [z02,z2m,z2q,z2p,z2o,z2n,z3f,z4f,z4e,z2s,z2r,z21,z20,z3c,z2c,z28,z26,z2b,z29,z2a,z27,z3n,z3t,z3u,z3v,z3q,z3p,z3r,z3o,z3k,z3l,z3w,z3x,z3i,z3j,z43,z3s,z08,z42,z41,z3m,z2t,z2y,z2z,z2x,z33,z34,z32,z1p,z1q,z2i,z2h,z3e,z1c,z4g,z13,z1r,z1s,z3b,z4v,z3g,z1d,z3h,z4u,z2g,z2f,z31,z3y,z3z,z40,z44,z3a,z30,z2e,z1u,z1v,z1t,z35,z38,z37,z39,z36,z1i,z1g,z1h,z1e,z1f,z4k,z4l,z16,z14,z15,z4h,z4i,z4j,z19,z18,z17,z4q,z4t,z4p,z2d,z1w,z1k,z4x,z4y,z4w,z1m,z1o,z1l,z2j,z2k,z4n,z4o,z4m,z46,z47,z45,z1b,z1a,z06,z04,z07,z03,z05,z2u,z2v,z2w,z4r,z4s,z25,z22,z24,z23,z09,z1x,z1z,z1y,z2l,z49,z4b,z4c,z48,z4d,z4a,z00,z01,z1n,z0g,z0i,z0k,z0b,z0d,z0c,z0l,z0e,z0f,z0h,z0j,z0m,z5q,z5r,z5o,z5p,z5u,z5n,z5y,z5x,z5s,z5t,z5v,z5w,z0a,z52,z53,z54,z55,z56,z50,z51,z5c,z4z,z5m,z57,z58,z59,z5a,z5b,z5d,z5e,z5f,z5g,z5h,z5i,z5j,z5k,z5l,z1j,z12,z11,z0v,z0o,z0w,z0p,z0x,z0q,z0y,z0r,z0z,z0s,z10,z0t,z60,z5z,z62,z61,z64,z63,z6v,z6u,zhq,z0u,z0n,z8x,z8v,zcd,zcb,zhl,zgz,zf6,zf3,zhm,zh0,zfx,zfo,zfy,zfp,zfz,zfq,zhn,zh1,zha,cP,Try.f66,zp1,zp2,z3d,zov,true_or,or_true,or_false,false_or,zoz,zp0,zot,Int.reduceToNat,Int.reduceLT,Int.reduceLE,Int.cast_ofNat_Int,zoi,zow,Nat.reduceEqDiff,↓reduceIte,Nat.reduceAdd,zoi,zow,zog,zoh,zp3,zp4,zp5,zox,reduceCtorEq,zos,zoy,zoo,true_and,and_true,zok,zol,Nat.reduceLT,Nat.reduceLeDiff,zp6,if_true,if_false,zoj,not_true_eq_false,not_false_eq_true,zp7,zou,zp8,zp9,forall_const,true_implies,false_implies,implies_true,decide_eq_true_eq,decide_eq_false_iff_not,zpa,zpb,zpc,eq_self]
  first | refine qcall_pure (fun N => ValidSheet_at s hs _) ?_ | refine acall_pure (ValidSheet_at s hs _) ?_
  cases r
  · simp only [z02,z2m,z2q,z2p,z2o,z2n,z3f,z4f,z4e,z2s,z2r,z21,z20,z3c,z2c,z28,z26,z2b,z29,z2a,z27,z3n,z3t,z3u,z3v,z3q,z3p,z3r,z3o,z3k,z3l,z3w,z3x,z3i,z3j,z43,z3s,z08,z42,z41,z3m,z2t,z2y,z2z,z2x,z33,z34,z32,z1p,z1q,z2i,z2h,z3e,z1c,z4g,z13,z1r,z1s,z3b,z4v,z3g,z1d,z3h,z4u,z2g,z2f,z31,z3y,z3z,z40,z44,z3a,z30,z2e,z1u,z1v,z1t,z35,z38,z37,z39,z36,z1i,z1g,z1h,z1e,z1f,z4k,z4l,z16,z14,z15,z4h,z4i,z4j,z19,z18,z17,z4q,z4t,z4p,z2d,z1w,z1k,z4x,z4y,z4w,z1m,z1o,z1l,z2j,z2k,z4n,z4o,z4m,z46,z47,z45,z1b,z1a,z06,z04,z07,z03,z05,z2u,z2v,z2w,z4r,z4s,z25,z22,z24,z23,z09,z1x,z1z,z1y,z2l,z49,z4b,z4c,z48,z4d,z4a,z00,z01,z1n,z0g,z0i,z0k,z0b,z0d,z0c,z0l,z0e,z0f,z0h,z0j,z0m,z5q,z5r,z5o,z5p,z5u,z5n,z5y,z5x,z5s,z5t,z5v,z5w,z0a,z52,z53,z54,z55,z56,z50,z51,z5c,z4z,z5m,z57,z58,z59,z5a,z5b,z5d,z5e,z5f,z5g,z5h,z5i,z5j,z5k,z5l,z1j,z12,z11,z0v,z0o,z0w,z0p,z0x,z0q,z0y,z0r,z0z,z0s,z10,z0t,z60,z5z,z62,z61,z64,z63,z6v,z6u,zhq,z0u,z0n,z8x,z8v,zcd,zcb,zhl,zgz,zf6,zf3,zhm,zh0,zfx,zfo,zfy,zfp,zfz,zfq,zhn,zh1,zha,cP,Try.f66,zp1,zp2,z3d,zov,true_or,or_true,or_false,false_or,zoz,zp0,zot,Int.reduceToNat,Int.reduceLT,Int.reduceLE,Int.cast_ofNat_Int,zoi,zow,Nat.reduceEqDiff,↓reduceIte,Nat.reduceAdd,zoi,zow,zog,zoh,zp3,zp4,zp5,zox,reduceCtorEq,zos,zoy,zoo,true_and,and_true,zok,zol,Nat.reduceLT,Nat.reduceLeDiff,zp6,if_true,if_false,zoj,not_true_eq_false,not_false_eq_true,zp7,zou,zp8,zp9,forall_const,true_implies,false_implies,implies_true,decide_eq_true_eq,decide_eq_false_iff_not,zpa,zpb,zpc,eq_self]
    ((repeat' first | (refine And.intro ?_ ?_) | (intro _)) <;> try omega)
    · rename_i hv
      exact fin_1 rfl rfl (congrArg (AV.int _) (by simp [codeM, hv]))
    · rename_i hv
      exact fin_1 rfl rfl (congrArg (AV.int _) (by simp [codeM, hv]))
  · simp only [z02,z2m,z2q,z2p,z2o,z2n,z3f,z4f,z4e,z2s,z2r,z21,z20,z3c,z2c,z28,z26,z2b,z29,z2a,z27,z3n,z3t,z3u,z3v,z3q,z3p,z3r,z3o,z3k,z3l,z3w,z3x,z3i,z3j,z43,z3s,z08,z42,z41,z3m,z2t,z2y,z2z,z2x,z33,z34,z32,z1p,z1q,z2i,z2h,z3e,z1c,z4g,z13,z1r,z1s,z3b,z4v,z3g,z1d,z3h,z4u,z2g,z2f,z31,z3y,z3z,z40,z44,z3a,z30,z2e,z1u,z1v,z1t,z35,z38,z37,z39,z36,z1i,z1g,z1h,z1e,z1f,z4k,z4l,z16,z14,z15,z4h,z4i,z4j,z19,z18,z17,z4q,z4t,z4p,z2d,z1w,z1k,z4x,z4y,z4w,z1m,z1o,z1l,z2j,z2k,z4n,z4o,z4m,z46,z47,z45,z1b,z1a,z06,z04,z07,z03,z05,z2u,z2v,z2w,z4r,z4s,z25,z22,z24,z23,z09,z1x,z1z,z1y,z2l,z49,z4b,z4c,z48,z4d,z4a,z00,z01,z1n,z0g,z0i,z0k,z0b,z0d,z0c,z0l,z0e,z0f,z0h,z0j,z0m,z5q,z5r,z5o,z5p,z5u,z5n,z5y,z5x,z5s,z5t,z5v,z5w,z0a,z52,z53,z54,z55,z56,z50,z51,z5c,z4z,z5m,z57,z58,z59,z5a,z5b,z5d,z5e,z5f,z5g,z5h,z5i,z5j,z5k,z5l,z1j,z12,z11,z0v,z0o,z0w,z0p,z0x,z0q,z0y,z0r,z0z,z0s,z10,z0t,z60,z5z,z62,z61,z64,z63,z6v,z6u,zhq,z0u,z0n,z8x,z8v,zcd,zcb,zhl,zgz,zf6,zf3,zhm,zh0,zfx,zfo,zfy,zfp,zfz,zfq,zhn,zh1,zha,cP,Try.f66,zp1,zp2,z3d,zov,true_or,or_true,or_false,false_or,zoz,zp0,zot,Int.reduceToNat,Int.reduceLT,Int.reduceLE,Int.cast_ofNat_Int,zoi,zow,Nat.reduceEqDiff,↓reduceIte,Nat.reduceAdd,zoi,zow,zog,zoh,zp3,zp4,zp5,zox,reduceCtorEq,zos,zoy,zoo,true_and,and_true,zok,zol,Nat.reduceLT,Nat.reduceLeDiff,zp6,if_true,if_false,zoj,not_true_eq_false,not_false_eq_true,zp7,zou,zp8,zp9,forall_const,true_implies,false_implies,implies_true,decide_eq_true_eq,decide_eq_false_iff_not,zpa,zpb,zpc,eq_self]
    ((repeat' first | (refine And.intro ?_ ?_) | (intro _)) <;> try omega)
    · rename_i hv
      exact fin_1 rfl rfl (congrArg (AV.int _) (by simp [codeM, hv]))
    · rename_i hv
      exact fin_1 rfl rfl (congrArg (AV.int _) (by simp [codeM, hv]))
theorem code_at (s : SheetM) (r : Bool) (hs : s.Ok) {H : Heap} {b : Nat} (hb : H[b]? = some (.data shSheet (sheetD s))) : ACall Cx.P [] 66 [.ptr b [] shSheet, .bool r] H (.int .i64 (codeM s r)) H :=
  (code_c s r hs).at1 rfl hb (by simp [inScopes, inScope]) (by simp [rens, ren, kap]) rfl
end Go.Proofs.Ytaabokmbkohieaa
