/- Contracts of functions of the program, by the texts that it imports. No conditions. -/
import Derived.Test.YtlfhpibbmgjgnaaW5
import Derived.Test.YtlfhpibbmgjgnaaW3
import Derived.Test.YtlfhpibbmgjgnaaW2
set_option linter.unusedVariables false
set_option linter.unusedSimpArgs false
namespace Go.Proofs.Ytlfhpibbmgjgnaa
open Ink Go
open Bool renaming false_eq_true → zhy, not_true → zi9, not_false → zin, true_eq_false → zio, not_eq_true → ziq, not_eq_false → zir, not_eq_eq_eq_not → zis
open Int renaming toNat_natCast → zi8, add_zero → zit, zero_add → ziu
open List renaming length_append → zhv, cons_append → zhw, length_cons → zhx, set_cons_zero → zhz, set_cons_succ → zi0, take_succ_cons → zi4, drop_succ_cons → zi5, drop_zero → zi6, map_cons → zi7, length_nil → zib, replicate_zero → zid, replicate_succ → zie, mem_cons → zif, not_mem_nil → zig, nil_append → zih, getElem?_cons_zero → zii, getElem?_cons_succ → zij, map_nil → zik, prefix_rfl → ziw, prefix_refl → zix, nil_prefix → ziy, take_zero → ziz, getD_cons_zero → zj1, getD_cons_succ → zj2
open Nat renaming add_zero → zi1, sub_zero → zi2, zero_le → zia, zero_add → zic, le_refl → zil, mul_zero → ziv, not_lt_zero → zj0, sub_self → zj3
open Option renaming map_some → zi3, isSome_some → zim
set_option maxRecDepth 100000
set_option linter.all false
theorem code_c (s : SheetM) (r : Bool) (hs : s.Ok) : ACall Cx.P [] 42 [.ptr 0 [] shSheet, .bool r] [.data shSheet (sheetD s)] (.int .i64 (codeM s r)) [.data shSheet (sheetD s)] := by
  refine acall_of_code Cx_ok Try.func42 rfl (by kernel_rfl) rfl (by kernel_rfl) (by simp) ?_
  simp only [z02,z2h,z2l,z2k,z2j,z2i,z3c,z4g,z4f,z2n,z2m,z1w,z1v,z39,z27,z23,z21,z26,z24,z25,z22,z3k,z3q,z3r,z3s,z3n,z3m,z3o,z3l,z3h,z3i,z42,z41,z3z,z3y,z32,z3t,z3u,z3f,z3g,z44,z3p,z08,z43,z40,z3j,z2o,z2t,z2u,z2s,z2y,z2z,z2x,z1k,z1l,z2d,z2c,z3b,z15,z4h,z0w,z1m,z1n,z38,z4x,z3d,z16,z3e,z4v,z4w,z2b,z2a,z2w,z3v,z3w,z3x,z45,z37,z36,z2v,z29,z1p,z1q,z1o,z30,z34,z33,z35,z31,z1b,z1c,z1d,z19,z1a,z17,z18,z4l,z4m,z0z,z0x,z0y,z4i,z4j,z4k,z12,z11,z10,z4r,z4u,z4q,z28,z1r,z1f,z4z,z50,z4y,z1h,z1j,z1g,z2e,z2f,z4o,z4p,z4n,z47,z48,z46,z14,z13,z06,z04,z07,z03,z05,z2p,z2q,z2r,z4s,z4t,z20,z1x,z1z,z1y,z09,z1s,z1u,z1t,z2g,z4a,z4c,z4d,z49,z4e,z4b,z00,z01,z1i,z0f,z0h,z0j,z0a,z0c,z0b,z0k,z0d,z0e,z0g,z0i,z0l,z5t,z5u,z5r,z5s,z5x,z5q,z61,z60,z5v,z5w,z5y,z5z,z5p,z54,z55,z56,z57,z58,z52,z53,z5e,z51,z5o,z59,z5a,z5b,z5c,z5d,z5f,z5g,z5h,z5i,z5j,z5k,z5l,z5m,z5n,z1e,z0v,z0u,z0r,z0n,z0s,z0o,z0t,z0p,z65,z62,z66,z63,z67,z64,z6b,z68,z6c,z69,z6d,z6a,z6j,z6i,z0q,z0m,z7l,z7k,zb5,zb4,zgk,zfy,zf6,zf0,zfh,zfd,zfi,zfe,zdt,cP,Try.f42,zid,zie,z3a,zia,true_or,or_true,or_false,false_or,zif,zig,zi8,Int.reduceToNat,Int.reduceLT,Int.reduceLE,Int.cast_ofNat_Int,zhx,zib,Nat.reduceEqDiff,↓reduceIte,Nat.reduceAdd,zhx,zib,zhv,zhw,zih,zii,zij,zic,reduceCtorEq,zi7,zik,zi3,true_and,and_true,zhz,zi0,Nat.reduceLT,Nat.reduceLeDiff,zil,if_true,if_false,zhy,not_true_eq_false,not_false_eq_true,zim,zi9,zin,zio,forall_const,true_implies,false_implies,implies_true,decide_eq_true_eq,decide_eq_false_iff_not,ziq,zir,zis,eq_self]
  first | refine qcall_pure (fun _ => ValidSheet_at s hs _) ?_ | refine acall_pure (ValidSheet_at s hs _) ?_
  cases r
  · simp only [z02,z2h,z2l,z2k,z2j,z2i,z3c,z4g,z4f,z2n,z2m,z1w,z1v,z39,z27,z23,z21,z26,z24,z25,z22,z3k,z3q,z3r,z3s,z3n,z3m,z3o,z3l,z3h,z3i,z42,z41,z3z,z3y,z32,z3t,z3u,z3f,z3g,z44,z3p,z08,z43,z40,z3j,z2o,z2t,z2u,z2s,z2y,z2z,z2x,z1k,z1l,z2d,z2c,z3b,z15,z4h,z0w,z1m,z1n,z38,z4x,z3d,z16,z3e,z4v,z4w,z2b,z2a,z2w,z3v,z3w,z3x,z45,z37,z36,z2v,z29,z1p,z1q,z1o,z30,z34,z33,z35,z31,z1b,z1c,z1d,z19,z1a,z17,z18,z4l,z4m,z0z,z0x,z0y,z4i,z4j,z4k,z12,z11,z10,z4r,z4u,z4q,z28,z1r,z1f,z4z,z50,z4y,z1h,z1j,z1g,z2e,z2f,z4o,z4p,z4n,z47,z48,z46,z14,z13,z06,z04,z07,z03,z05,z2p,z2q,z2r,z4s,z4t,z20,z1x,z1z,z1y,z09,z1s,z1u,z1t,z2g,z4a,z4c,z4d,z49,z4e,z4b,z00,z01,z1i,z0f,z0h,z0j,z0a,z0c,z0b,z0k,z0d,z0e,z0g,z0i,z0l,z5t,z5u,z5r,z5s,z5x,z5q,z61,z60,z5v,z5w,z5y,z5z,z5p,z54,z55,z56,z57,z58,z52,z53,z5e,z51,z5o,z59,z5a,z5b,z5c,z5d,z5f,z5g,z5h,z5i,z5j,z5k,z5l,z5m,z5n,z1e,z0v,z0u,z0r,z0n,z0s,z0o,z0t,z0p,z65,z62,z66,z63,z67,z64,z6b,z68,z6c,z69,z6d,z6a,z6j,z6i,z0q,z0m,z7l,z7k,zb5,zb4,zgk,zfy,zf6,zf0,zfh,zfd,zfi,zfe,zdt,cP,Try.f42,zid,zie,z3a,zia,true_or,or_true,or_false,false_or,zif,zig,zi8,Int.reduceToNat,Int.reduceLT,Int.reduceLE,Int.cast_ofNat_Int,zhx,zib,Nat.reduceEqDiff,↓reduceIte,Nat.reduceAdd,zhx,zib,zhv,zhw,zih,zii,zij,zic,reduceCtorEq,zi7,zik,zi3,true_and,and_true,zhz,zi0,Nat.reduceLT,Nat.reduceLeDiff,zil,if_true,if_false,zhy,not_true_eq_false,not_false_eq_true,zim,zi9,zin,zio,forall_const,true_implies,false_implies,implies_true,decide_eq_true_eq,decide_eq_false_iff_not,ziq,zir,zis,eq_self]
    ((repeat' first | (refine And.intro ?_ ?_) | (intro _)) <;> try omega)
    · rename_i hv
      exact fin_1 rfl rfl (congrArg (AV.int _) (by simp [codeM, hv]))
    · rename_i hv
      exact fin_1 rfl rfl (congrArg (AV.int _) (by simp [codeM, hv]))
  · simp only [z02,z2h,z2l,z2k,z2j,z2i,z3c,z4g,z4f,z2n,z2m,z1w,z1v,z39,z27,z23,z21,z26,z24,z25,z22,z3k,z3q,z3r,z3s,z3n,z3m,z3o,z3l,z3h,z3i,z42,z41,z3z,z3y,z32,z3t,z3u,z3f,z3g,z44,z3p,z08,z43,z40,z3j,z2o,z2t,z2u,z2s,z2y,z2z,z2x,z1k,z1l,z2d,z2c,z3b,z15,z4h,z0w,z1m,z1n,z38,z4x,z3d,z16,z3e,z4v,z4w,z2b,z2a,z2w,z3v,z3w,z3x,z45,z37,z36,z2v,z29,z1p,z1q,z1o,z30,z34,z33,z35,z31,z1b,z1c,z1d,z19,z1a,z17,z18,z4l,z4m,z0z,z0x,z0y,z4i,z4j,z4k,z12,z11,z10,z4r,z4u,z4q,z28,z1r,z1f,z4z,z50,z4y,z1h,z1j,z1g,z2e,z2f,z4o,z4p,z4n,z47,z48,z46,z14,z13,z06,z04,z07,z03,z05,z2p,z2q,z2r,z4s,z4t,z20,z1x,z1z,z1y,z09,z1s,z1u,z1t,z2g,z4a,z4c,z4d,z49,z4e,z4b,z00,z01,z1i,z0f,z0h,z0j,z0a,z0c,z0b,z0k,z0d,z0e,z0g,z0i,z0l,z5t,z5u,z5r,z5s,z5x,z5q,z61,z60,z5v,z5w,z5y,z5z,z5p,z54,z55,z56,z57,z58,z52,z53,z5e,z51,z5o,z59,z5a,z5b,z5c,z5d,z5f,z5g,z5h,z5i,z5j,z5k,z5l,z5m,z5n,z1e,z0v,z0u,z0r,z0n,z0s,z0o,z0t,z0p,z65,z62,z66,z63,z67,z64,z6b,z68,z6c,z69,z6d,z6a,z6j,z6i,z0q,z0m,z7l,z7k,zb5,zb4,zgk,zfy,zf6,zf0,zfh,zfd,zfi,zfe,zdt,cP,Try.f42,zid,zie,z3a,zia,true_or,or_true,or_false,false_or,zif,zig,zi8,Int.reduceToNat,Int.reduceLT,Int.reduceLE,Int.cast_ofNat_Int,zhx,zib,Nat.reduceEqDiff,↓reduceIte,Nat.reduceAdd,zhx,zib,zhv,zhw,zih,zii,zij,zic,reduceCtorEq,zi7,zik,zi3,true_and,and_true,zhz,zi0,Nat.reduceLT,Nat.reduceLeDiff,zil,if_true,if_false,zhy,not_true_eq_false,not_false_eq_true,zim,zi9,zin,zio,forall_const,true_implies,false_implies,implies_true,decide_eq_true_eq,decide_eq_false_iff_not,ziq,zir,zis,eq_self]
    ((repeat' first | (refine And.intro ?_ ?_) | (intro _)) <;> try omega)
    · rename_i hv
      exact fin_1 rfl rfl (congrArg (AV.int _) (by simp [codeM, hv]))
    · rename_i hv
      exact fin_1 rfl rfl (congrArg (AV.int _) (by simp [codeM, hv]))
theorem code_at (s : SheetM) (r : Bool) (hs : s.Ok) {H : Heap} {b : Nat} (hb : H[b]? = some (.data shSheet (sheetD s))) : ACall Cx.P [] 42 [.ptr b [] shSheet, .bool r] H (.int .i64 (codeM s r)) H :=
  (code_c s r hs).at1 rfl hb (by simp [inScopes, inScope]) (by simp [rens, ren, kap]) rfl
end Go.Proofs.Ytlfhpibbmgjgnaa
