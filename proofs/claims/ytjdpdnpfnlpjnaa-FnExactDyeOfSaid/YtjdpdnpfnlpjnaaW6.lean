/- Contracts of functions of the program, by the texts that it imports. No conditions. -/
import Derived.Test.YtjdpdnpfnlpjnaaW5
import Derived.Test.YtjdpdnpfnlpjnaaW3
import Derived.Test.YtjdpdnpfnlpjnaaW2
set_option linter.unusedVariables false
set_option linter.unusedSimpArgs false
namespace Go.Proofs.Ytjdpdnpfnlpjnaa
open Ink Go
open Bool renaming false_eq_true → zso, not_true → zsz, not_false → ztd, true_eq_false → zte, not_eq_true → ztf, not_eq_false → ztg, not_eq_eq_eq_not → zth
open Int renaming toNat_natCast → zsy, add_zero → zti, zero_add → ztj
open List renaming length_append → zsl, cons_append → zsm, length_cons → zsn, set_cons_zero → zsp, set_cons_succ → zsq, take_succ_cons → zsu, drop_succ_cons → zsv, drop_zero → zsw, map_cons → zsx, length_nil → zt1, map_nil → zt3, mem_cons → zt4, not_mem_nil → zt5, replicate_zero → zt6, replicate_succ → zt7, nil_append → zt8, getElem?_cons_zero → zt9, getElem?_cons_succ → zta, prefix_rfl → ztl, prefix_refl → ztm, nil_prefix → ztn, take_zero → zto, getD_cons_zero → ztq, getD_cons_succ → ztr
open Nat renaming add_zero → zsr, sub_zero → zss, zero_le → zt0, zero_add → zt2, le_refl → ztb, mul_zero → ztk, not_lt_zero → ztp, sub_self → zts
open Option renaming map_some → zst, isSome_some → ztc
set_option maxRecDepth 100000
set_option linter.all false
theorem eqInt64A3_c (f g : Nat → Int) : ACall Cx.P [] 33 [.agg (.arr 3 (.int .i64)) (a1 .i64 f), .agg (.arr 3 (.int .i64)) (a1 .i64 g)] [] (.bool (decide (f 0 = g 0 ∧ f 1 = g 1 ∧ f 2 = g 2))) [] := by
  refine acall_of_code Cx_ok Try.func33 rfl (by kernel_rfl) rfl (by kernel_rfl) (by simp) ?_
  simp only [z02,z2m,z2q,z2p,z2o,z2n,z3g,z4g,z4f,z2s,z2r,z21,z20,z3d,z2c,z28,z26,z2b,z29,z2a,z27,z3o,z3u,z3v,z3w,z3r,z3q,z3s,z3p,z3l,z3m,z3x,z3y,z3j,z3k,z44,z3t,z08,z43,z42,z3n,z2t,z2y,z2z,z2x,z33,z34,z32,z1p,z1q,z2i,z2h,z3f,z1c,z4h,z13,z1r,z1s,z3c,z4w,z3h,z1d,z3i,z4v,z2g,z2f,z31,z3z,z40,z41,z45,z3b,z3a,z30,z2e,z1u,z1v,z1t,z35,z38,z37,z39,z36,z1i,z1g,z1h,z1e,z1f,z6p,z7k,z6c,z6n,z7i,z6a,z6o,z7j,z6b,z4l,z4m,z16,z14,z15,z4i,z4j,z4k,z19,z18,z17,z4r,z4u,z4q,z2d,z1w,z1k,z4y,z4z,z4x,z1m,z1o,z1l,z2j,z2k,z4o,z4p,z4n,z47,z48,z46,z1b,z1a,z06,z04,z07,z03,z05,z2u,z2v,z2w,z4s,z4t,z25,z22,z24,z23,z09,z1x,z1z,z1y,z2l,z4a,z4c,z4d,z49,z4e,z4b,z00,z01,z1n,z0g,z0i,z0k,z0a,z0d,z0b,z0l,z0e,z0f,z0h,z0j,z0m,z5r,z5s,z5p,z5q,z5v,z5o,z5z,z5y,z5t,z5u,z5w,z5x,z0c,z53,z54,z55,z56,z57,z51,z52,z5d,z50,z5n,z58,z59,z5a,z5b,z5c,z5e,z5f,z5g,z5h,z5i,z5j,z5k,z5l,z5m,z1j,z12,z11,z0v,z0o,z0w,z0p,z0x,z0q,z0y,z0r,z0z,z0s,z10,z0t,z63,z60,z64,z61,z65,z62,z7f,z7e,z0u,z0n,z67,z66,z69,z68,z6e,z6d,z7d,zbt,ze3,cP,Try.f33,zt6,zt7,z3e,zt0,true_or,or_true,or_false,false_or,zt4,zt5,zsy,Int.reduceToNat,Int.reduceLT,Int.reduceLE,Int.cast_ofNat_Int,zsn,zt1,Nat.reduceEqDiff,↓reduceIte,Nat.reduceAdd,zsn,zt1,zsl,zsm,zt8,zt9,zta,zt2,reduceCtorEq,zsx,zt3,zst,true_and,and_true,zsp,zsq,Nat.reduceLT,Nat.reduceLeDiff,ztb,if_true,if_false,zso,not_true_eq_false,not_false_eq_true,ztc,zsz,ztd,zte,forall_const,true_implies,false_implies,implies_true,decide_eq_true_eq,decide_eq_false_iff_not,ztf,ztg,zth,eq_self]
  refine aloop (fun k : Nat => k ≤ 3 ∧ ∀ m < k, f m = g m) (fun k => 3 - k) (fun k => [(5, .int .i64 k), (3, .ptr 1 [] (.arr 3 (.int .i64))), (2, .ptr 0 [] (.arr 3 (.int .i64)))])
    (fun _ => [.data (.arr 3 (.int .i64)) (a1 .i64 f), .data (.arr 3 (.int .i64)) (a1 .i64 g)]) 0 ⟨by omega, fun m hm => by omega⟩ ?_ fun k hk => ?_
  · refine weak_k [0,1] (by simp) rfl rfl (by decide) ?_ ?_ <;> simp (disch := omega) only [z8v,z8u,z7y,z8q,z89,z80,z7z,z8l,z8m,z8n,z8h,z8e,z8o,z8d,z8i,z8k,z8g,z8p,z8j,z8f,z86,z8b,z8s,z82,z7x,z8t,z7w,z85,z83,z81,z8w,z8a,z87,z8r,z84,z88,z8c,sumTo_zero,sumCells_zero,upTo_const,zti,ztj,zsy,z06,z04,z07,z03,z05,ztk,cellsTo_zero,ztl,ztm,ztn,implies_true,imp_self,zt6,z00,z01,z08,z02,zsu,zto,zsv,zsw,upTo_zero,upTo_succ,wrap_i64,wrap_i16,wrap_i8,wrap_u8,cast_succ,cast_zero,Nat.reduceEqDiff,↓reduceIte,Nat.reduceAdd,Nat.reduceSub,zsn,zt1,zsl,zsm,zt8,zt9,zta,zt2,true_and,and_true,Nat.reduceLT,ztp,ztq,ztr,Nat.reduceLeDiff,not_false_eq_true,and_self,zsr,zss,zts]
  · obtain ⟨hk, hm⟩ := hk
    simp only [z02,z2m,z2q,z2p,z2o,z2n,z3g,z4g,z4f,z2s,z2r,z21,z20,z3d,z2c,z28,z26,z2b,z29,z2a,z27,z3o,z3u,z3v,z3w,z3r,z3q,z3s,z3p,z3l,z3m,z3x,z3y,z3j,z3k,z44,z3t,z08,z43,z42,z3n,z2t,z2y,z2z,z2x,z33,z34,z32,z1p,z1q,z2i,z2h,z3f,z1c,z4h,z13,z1r,z1s,z3c,z4w,z3h,z1d,z3i,z4v,z2g,z2f,z31,z3z,z40,z41,z45,z3b,z3a,z30,z2e,z1u,z1v,z1t,z35,z38,z37,z39,z36,z1i,z1g,z1h,z1e,z1f,z6p,z7k,z6c,z6n,z7i,z6a,z6o,z7j,z6b,z4l,z4m,z16,z14,z15,z4i,z4j,z4k,z19,z18,z17,z4r,z4u,z4q,z2d,z1w,z1k,z4y,z4z,z4x,z1m,z1o,z1l,z2j,z2k,z4o,z4p,z4n,z47,z48,z46,z1b,z1a,z06,z04,z07,z03,z05,z2u,z2v,z2w,z4s,z4t,z25,z22,z24,z23,z09,z1x,z1z,z1y,z2l,z4a,z4c,z4d,z49,z4e,z4b,z00,z01,z1n,z0g,z0i,z0k,z0a,z0d,z0b,z0l,z0e,z0f,z0h,z0j,z0m,z5r,z5s,z5p,z5q,z5v,z5o,z5z,z5y,z5t,z5u,z5w,z5x,z0c,z53,z54,z55,z56,z57,z51,z52,z5d,z50,z5n,z58,z59,z5a,z5b,z5c,z5e,z5f,z5g,z5h,z5i,z5j,z5k,z5l,z5m,z1j,z12,z11,z0v,z0o,z0w,z0p,z0x,z0q,z0y,z0r,z0z,z0s,z10,z0t,z63,z60,z64,z61,z65,z62,z7f,z7e,z0u,z0n,z67,z66,z69,z68,z6e,z6d,z7d,zbt,ze3,cP,Try.f33,zt6,zt7,z3e,zt0,true_or,or_true,or_false,false_or,zt4,zt5,zsy,Int.reduceToNat,Int.reduceLT,Int.reduceLE,Int.cast_ofNat_Int,zsn,zt1,Nat.reduceEqDiff,↓reduceIte,Nat.reduceAdd,zsn,zt1,zsl,zsm,zt8,zt9,zta,zt2,reduceCtorEq,zsx,zt3,zst,true_and,and_true,zsp,zsq,Nat.reduceLT,Nat.reduceLeDiff,ztb,if_true,if_false,zso,not_true_eq_false,not_false_eq_true,ztc,zsz,ztd,zte,forall_const,true_implies,false_implies,implies_true,decide_eq_true_eq,decide_eq_false_iff_not,ztf,ztg,zth,eq_self]
    ((repeat' first | (refine And.intro ?_ ?_) | (intro _)) <;> try omega)
    · refine ⟨k + 1, ⟨by omega, fun m hm2 => ?_⟩, by omega, ?_⟩
      · by_cases e : m = k
        · subst e; assumption
        · exact hm m (by omega)
      · refine weak_k [0,1] (by simp) rfl rfl (by decide) ?_ ?_ <;> simp (disch := omega) only [z8v,z8u,z7y,z8q,z89,z80,z7z,z8l,z8m,z8n,z8h,z8e,z8o,z8d,z8i,z8k,z8g,z8p,z8j,z8f,z86,z8b,z8s,z82,z7x,z8t,z7w,z85,z83,z81,z8w,z8a,z87,z8r,z84,z88,z8c,sumTo_zero,sumCells_zero,upTo_const,zti,ztj,zsy,z06,z04,z07,z03,z05,ztk,cellsTo_zero,ztl,ztm,ztn,implies_true,imp_self,zt6,z00,z01,z08,z02,zsu,zto,zsv,zsw,upTo_zero,upTo_succ,wrap_i64,wrap_i16,wrap_i8,wrap_u8,cast_succ,cast_zero,Nat.reduceEqDiff,↓reduceIte,Nat.reduceAdd,Nat.reduceSub,zsn,zt1,zsl,zsm,zt8,zt9,zta,zt2,true_and,and_true,Nat.reduceLT,ztp,ztq,ztr,Nat.reduceLeDiff,not_false_eq_true,and_self,zsr,zss,zts]
    · rename_i hno
      refine fin_0 rfl (congrArg AV.bool (Eq.symm (decide_eq_false fun h => hno ?_)))
      match k, hk with
      | 0, _ => exact h.1
      | 1, _ => exact h.2.1
      | 2, _ => exact h.2.2
      | 3, _ => omega
    · obtain rfl : k = 3 := by omega
      exact fin_0 rfl (congrArg AV.bool (Eq.symm (decide_eq_true ⟨hm 0 (by omega), hm 1 (by omega), hm 2 (by omega)⟩)))
theorem eqInt64A3_at (f g : Nat → Int) (H : Heap) : ACall Cx.P [] 33 [.agg (.arr 3 (.int .i64)) (a1 .i64 f), .agg (.arr 3 (.int .i64)) (a1 .i64 g)] H (.bool (decide (f 0 = g 0 ∧ f 1 = g 1 ∧ f 2 = g 2))) H := (eqInt64A3_c f g).at0 rfl rfl H
end Go.Proofs.Ytjdpdnpfnlpjnaa
