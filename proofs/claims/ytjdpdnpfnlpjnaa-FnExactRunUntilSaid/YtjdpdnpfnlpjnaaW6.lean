/- Contracts of functions of the program, by the texts that it imports. No conditions. -/
import Derived.Test.YtjdpdnpfnlpjnaaW5
import Derived.Test.YtjdpdnpfnlpjnaaW3
import Derived.Test.YtjdpdnpfnlpjnaaW2
set_option linter.unusedVariables false
set_option linter.unusedSimpArgs false
namespace Go.Proofs.Ytjdpdnpfnlpjnaa
open Ink Go
open Bool renaming false_eq_true → zsj, not_true → zsu, not_false → zt8, true_eq_false → zt9, not_eq_true → zta, not_eq_false → ztb, not_eq_eq_eq_not → ztc
open Int renaming toNat_natCast → zst, add_zero → ztd, zero_add → zte
open List renaming length_append → zsg, cons_append → zsh, length_cons → zsi, set_cons_zero → zsk, set_cons_succ → zsl, take_succ_cons → zsp, drop_succ_cons → zsq, drop_zero → zsr, map_cons → zss, length_nil → zsw, map_nil → zsy, mem_cons → zsz, not_mem_nil → zt0, replicate_zero → zt1, replicate_succ → zt2, nil_append → zt3, getElem?_cons_zero → zt4, getElem?_cons_succ → zt5, prefix_rfl → ztg, prefix_refl → zth, nil_prefix → zti, take_zero → ztj, getD_cons_zero → ztl, getD_cons_succ → ztm
open Nat renaming add_zero → zsm, sub_zero → zsn, zero_le → zsv, zero_add → zsx, le_refl → zt6, mul_zero → ztf, not_lt_zero → ztk, sub_self → ztn
open Option renaming map_some → zso, isSome_some → zt7
set_option maxRecDepth 100000
set_option linter.all false
theorem code_c (s : SheetM) (r : Bool) (hs : s.Ok) : ACall Cx.P [] 63 [.ptr 0 [] shSheet, .bool r] [.data shSheet (sheetD s)] (.int .i64 (codeM s r)) [.data shSheet (sheetD s)] := by
  refine acall_of_code Cx_ok Try.func63 rfl (by kernel_rfl) rfl (by kernel_rfl) (by simp) ?_
  simp only [z02,z2m,z2q,z2p,z2o,z2n,z3f,z4f,z4e,z2s,z2r,z21,z20,z3c,z2c,z28,z26,z2b,z29,z2a,z27,z3n,z3t,z3u,z3v,z3q,z3p,z3r,z3o,z3k,z3l,z3w,z3x,z3i,z3j,z43,z3s,z08,z42,z41,z3m,z2t,z2y,z2z,z2x,z33,z34,z32,z1p,z1q,z2i,z2h,z3e,z1c,z4g,z13,z1r,z1s,z3b,z4v,z3g,z1d,z3h,z4u,z2g,z2f,z31,z3y,z3z,z40,z44,z3a,z30,z2e,z1u,z1v,z1t,z35,z38,z37,z39,z36,z1i,z1g,z1h,z1e,z1f,z4k,z4l,z16,z14,z15,z4h,z4i,z4j,z19,z18,z17,z4q,z4t,z4p,z2d,z1w,z1k,z4x,z4y,z4w,z1m,z1o,z1l,z2j,z2k,z4n,z4o,z4m,z46,z47,z45,z1b,z1a,z06,z04,z07,z03,z05,z2u,z2v,z2w,z4r,z4s,z25,z22,z24,z23,z09,z1x,z1z,z1y,z2l,z49,z4b,z4c,z48,z4d,z4a,z00,z01,z1n,z0g,z0i,z0k,z0a,z0d,z0b,z0l,z0e,z0f,z0h,z0j,z0m,z5q,z5r,z5o,z5p,z5u,z5n,z5y,z5x,z5s,z5t,z5v,z5w,z0c,z52,z53,z54,z55,z56,z50,z51,z5c,z4z,z5m,z57,z58,z59,z5a,z5b,z5d,z5e,z5f,z5g,z5h,z5i,z5j,z5k,z5l,z1j,z12,z11,z0v,z0o,z0w,z0p,z0x,z0q,z0y,z0r,z0z,z0s,z10,z0t,z60,z5z,z63,z61,z64,z62,z6m,z6l,zg0,zfw,z0u,z0n,z7h,z7g,zeu,zen,zb1,zax,zif,zhp,zbm,zbl,zgo,zge,zgp,zgf,zig,zhq,zfu,zi6,cP,Try.f63,zt1,zt2,z3d,zsv,true_or,or_true,or_false,false_or,zsz,zt0,zst,Int.reduceToNat,Int.reduceLT,Int.reduceLE,Int.cast_ofNat_Int,zsi,zsw,Nat.reduceEqDiff,↓reduceIte,Nat.reduceAdd,zsi,zsw,zsg,zsh,zt3,zt4,zt5,zsx,reduceCtorEq,zss,zsy,zso,true_and,and_true,zsk,zsl,Nat.reduceLT,Nat.reduceLeDiff,zt6,if_true,if_false,zsj,not_true_eq_false,not_false_eq_true,zt7,zsu,zt8,zt9,forall_const,true_implies,false_implies,implies_true,decide_eq_true_eq,decide_eq_false_iff_not,zta,ztb,ztc,eq_self]
  first | refine qcall_pure (fun N => ValidSheet_at s hs _) ?_ | refine acall_pure (ValidSheet_at s hs _) ?_
  cases r
  · simp only [z02,z2m,z2q,z2p,z2o,z2n,z3f,z4f,z4e,z2s,z2r,z21,z20,z3c,z2c,z28,z26,z2b,z29,z2a,z27,z3n,z3t,z3u,z3v,z3q,z3p,z3r,z3o,z3k,z3l,z3w,z3x,z3i,z3j,z43,z3s,z08,z42,z41,z3m,z2t,z2y,z2z,z2x,z33,z34,z32,z1p,z1q,z2i,z2h,z3e,z1c,z4g,z13,z1r,z1s,z3b,z4v,z3g,z1d,z3h,z4u,z2g,z2f,z31,z3y,z3z,z40,z44,z3a,z30,z2e,z1u,z1v,z1t,z35,z38,z37,z39,z36,z1i,z1g,z1h,z1e,z1f,z4k,z4l,z16,z14,z15,z4h,z4i,z4j,z19,z18,z17,z4q,z4t,z4p,z2d,z1w,z1k,z4x,z4y,z4w,z1m,z1o,z1l,z2j,z2k,z4n,z4o,z4m,z46,z47,z45,z1b,z1a,z06,z04,z07,z03,z05,z2u,z2v,z2w,z4r,z4s,z25,z22,z24,z23,z09,z1x,z1z,z1y,z2l,z49,z4b,z4c,z48,z4d,z4a,z00,z01,z1n,z0g,z0i,z0k,z0a,z0d,z0b,z0l,z0e,z0f,z0h,z0j,z0m,z5q,z5r,z5o,z5p,z5u,z5n,z5y,z5x,z5s,z5t,z5v,z5w,z0c,z52,z53,z54,z55,z56,z50,z51,z5c,z4z,z5m,z57,z58,z59,z5a,z5b,z5d,z5e,z5f,z5g,z5h,z5i,z5j,z5k,z5l,z1j,z12,z11,z0v,z0o,z0w,z0p,z0x,z0q,z0y,z0r,z0z,z0s,z10,z0t,z60,z5z,z63,z61,z64,z62,z6m,z6l,zg0,zfw,z0u,z0n,z7h,z7g,zeu,zen,zb1,zax,zif,zhp,zbm,zbl,zgo,zge,zgp,zgf,zig,zhq,zfu,zi6,cP,Try.f63,zt1,zt2,z3d,zsv,true_or,or_true,or_false,false_or,zsz,zt0,zst,Int.reduceToNat,Int.reduceLT,Int.reduceLE,Int.cast_ofNat_Int,zsi,zsw,Nat.reduceEqDiff,↓reduceIte,Nat.reduceAdd,zsi,zsw,zsg,zsh,zt3,zt4,zt5,zsx,reduceCtorEq,zss,zsy,zso,true_and,and_true,zsk,zsl,Nat.reduceLT,Nat.reduceLeDiff,zt6,if_true,if_false,zsj,not_true_eq_false,not_false_eq_true,zt7,zsu,zt8,zt9,forall_const,true_implies,false_implies,implies_true,decide_eq_true_eq,decide_eq_false_iff_not,zta,ztb,ztc,eq_self]
    ((repeat' first | (refine And.intro ?_ ?_) | (intro _)) <;> try omega)
    · rename_i hv
      exact fin_1 rfl rfl (congrArg (AV.int _) (by simp [codeM, hv]))
    · rename_i hv
      exact fin_1 rfl rfl (congrArg (AV.int _) (by simp [codeM, hv]))
  · simp only [z02,z2m,z2q,z2p,z2o,z2n,z3f,z4f,z4e,z2s,z2r,z21,z20,z3c,z2c,z28,z26,z2b,z29,z2a,z27,z3n,z3t,z3u,z3v,z3q,z3p,z3r,z3o,z3k,z3l,z3w,z3x,z3i,z3j,z43,z3s,z08,z42,z41,z3m,z2t,z2y,z2z,z2x,z33,z34,z32,z1p,z1q,z2i,z2h,z3e,z1c,z4g,z13,z1r,z1s,z3b,z4v,z3g,z1d,z3h,z4u,z2g,z2f,z31,z3y,z3z,z40,z44,z3a,z30,z2e,z1u,z1v,z1t,z35,z38,z37,z39,z36,z1i,z1g,z1h,z1e,z1f,z4k,z4l,z16,z14,z15,z4h,z4i,z4j,z19,z18,z17,z4q,z4t,z4p,z2d,z1w,z1k,z4x,z4y,z4w,z1m,z1o,z1l,z2j,z2k,z4n,z4o,z4m,z46,z47,z45,z1b,z1a,z06,z04,z07,z03,z05,z2u,z2v,z2w,z4r,z4s,z25,z22,z24,z23,z09,z1x,z1z,z1y,z2l,z49,z4b,z4c,z48,z4d,z4a,z00,z01,z1n,z0g,z0i,z0k,z0a,z0d,z0b,z0l,z0e,z0f,z0h,z0j,z0m,z5q,z5r,z5o,z5p,z5u,z5n,z5y,z5x,z5s,z5t,z5v,z5w,z0c,z52,z53,z54,z55,z56,z50,z51,z5c,z4z,z5m,z57,z58,z59,z5a,z5b,z5d,z5e,z5f,z5g,z5h,z5i,z5j,z5k,z5l,z1j,z12,z11,z0v,z0o,z0w,z0p,z0x,z0q,z0y,z0r,z0z,z0s,z10,z0t,z60,z5z,z63,z61,z64,z62,z6m,z6l,zg0,zfw,z0u,z0n,z7h,z7g,zeu,zen,zb1,zax,zif,zhp,zbm,zbl,zgo,zge,zgp,zgf,zig,zhq,zfu,zi6,cP,Try.f63,zt1,zt2,z3d,zsv,true_or,or_true,or_false,false_or,zsz,zt0,zst,Int.reduceToNat,Int.reduceLT,Int.reduceLE,Int.cast_ofNat_Int,zsi,zsw,Nat.reduceEqDiff,↓reduceIte,Nat.reduceAdd,zsi,zsw,zsg,zsh,zt3,zt4,zt5,zsx,reduceCtorEq,zss,zsy,zso,true_and,and_true,zsk,zsl,Nat.reduceLT,Nat.reduceLeDiff,zt6,if_true,if_false,zsj,not_true_eq_false,not_false_eq_true,zt7,zsu,zt8,zt9,forall_const,true_implies,false_implies,implies_true,decide_eq_true_eq,decide_eq_false_iff_not,zta,ztb,ztc,eq_self]
    ((repeat' first | (refine And.intro ?_ ?_) | (intro _)) <;> try omega)
    · rename_i hv
      exact fin_1 rfl rfl (congrArg (AV.int _) (by simp [codeM, hv]))
    · rename_i hv
      exact fin_1 rfl rfl (congrArg (AV.int _) (by simp [codeM, hv]))
theorem code_at (s : SheetM) (r : Bool) (hs : s.Ok) {H : Heap} {b : Nat} (hb : H[b]? = some (.data shSheet (sheetD s))) : ACall Cx.P [] 63 [.ptr b [] shSheet, .bool r] H (.int .i64 (codeM s r)) H :=
  (code_c s r hs).at1 rfl hb (by simp [inScopes, inScope]) (by simp [rens, ren, kap]) rfl
end Go.Proofs.Ytjdpdnpfnlpjnaa
