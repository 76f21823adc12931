/- Contracts of functions of the program, by the texts that it imports. No conditions. -/
import Derived.Test.YtjdpdnpfnlpjnaaW41
set_option linter.unusedVariables false
set_option linter.unusedSimpArgs false
namespace Go.Proofs.Ytjdpdnpfnlpjnaa
open Ink Go
open Bool renaming false_eq_true → zso, not_true → zsz, not_false → ztd, true_eq_false → zte, not_eq_true → ztf, not_eq_false → ztg, not_eq_eq_eq_not → zth
open Int renaming toNat_natCast → zsy, add_zero → zti, zero_add → ztj
open List renaming length_append → zsl, cons_append → zsm, length_cons → zsn, set_cons_zero → zsp, set_cons_succ → zsq, take_succ_cons → zsu, drop_succ_cons → zsv, drop_zero → zsw, map_cons → zsx, length_nil → zt1, map_nil → zt3, mem_cons → zt4, not_mem_nil → zt5, replicate_zero → zt6, replicate_succ → zt7, nil_append → zt8, getElem?_cons_zero → zt9, getElem?_cons_succ → zta, prefix_rfl → ztl, prefix_refl → ztm, nil_prefix → ztn, take_zero → zto, getD_cons_zero → ztq, getD_cons_succ → ztr
open Nat renaming add_zero → zsr, sub_zero → zss, zero_le → zt0, zero_add → zt2, le_refl → ztb, mul_zero → ztk, not_lt_zero → ztp, sub_self → zts
open Option renaming map_some → zst, isSome_some → ztc
set_option maxRecDepth 100000
set_option linter.all false
theorem l01Next_c (x y : Int) (k : Nat) (p : SpotM) (h8 : in8 x y) (hk : k < 4) (hp : (besideL x y)[k]? = some p) : ACall Cx.P [] 140 [.agg shSpot (spotD x y), .int .i64 k] [] (.agg shSpot (spotV p)) [] := by
  obtain ⟨⟨a1, a2⟩, a3, a4⟩ := h8
  have e1 : IntKind.i8.wrap (x - 1) = x - 1 := wrap_i8 (by omega) (by omega)
  have e2 : IntKind.i8.wrap (x + 1) = x + 1 := wrap_i8 (by omega) (by omega)
  have e3 : IntKind.i8.wrap (y - 1) = y - 1 := wrap_i8 (by omega) (by omega)
  have e4 : IntKind.i8.wrap (y + 1) = y + 1 := wrap_i8 (by omega) (by omega)
  have hkc : k = 0 ∨ k = 1 ∨ k = 2 ∨ k = 3 := by omega
  have c0 : ((0 : Nat) : Int) = 0 := rfl
  have c1 : ((1 : Nat) : Int) = 1 := rfl
  have c2 : ((2 : Nat) : Int) = 2 := rfl
  have c3 : ((3 : Nat) : Int) = 3 := rfl
  refine acall_of_code Cx_ok Try.func140 rfl (by kernel_rfl) rfl (by kernel_rfl) (by simp) ?_
  rcases hkc with rfl | rfl | rfl | rfl <;> (simp [besideL] at hp; subst hp; simp only [spotV,c0,c1,c2,c3,e1,e2,e3,e4,z02,z2i,z2m,z2l,z2k,z2j,z3c,z4c,z4b,z2o,z2n,z1x,z1w,z39,z28,z24,z22,z27,z25,z26,z23,z3k,z3q,z3r,z3s,z3n,z3m,z3o,z3l,z3h,z3i,z3t,z3u,z3f,z3g,z40,z3p,z08,z3z,z3y,z3j,z2p,z2u,z2v,z2t,z2z,z30,z2y,z1l,z1m,z2e,z2d,z3b,z18,z4d,z0z,z1n,z1o,z38,z4s,z3d,z19,z3e,z4r,z2c,z2b,z2x,z3v,z3w,z3x,z41,z37,z36,z2w,z2a,z1q,z1r,z1p,z31,z34,z33,z35,z32,z1e,z1c,z1d,z1a,z1b,z6y,zc1,zci,z6w,zbz,zcg,z6x,zc0,zch,z4h,z4i,z12,z10,z11,z4e,z4f,z4g,z15,z14,z13,z4n,z4q,z4m,z29,z1s,z1g,z4u,z4v,z4t,z1i,z1k,z1h,z2f,z2g,z4k,z4l,z4j,z43,z44,z42,z17,z16,z06,z04,z07,z03,z05,z2q,z2r,z2s,z4o,z4p,z21,z1y,z20,z1z,z09,z1t,z1v,z1u,z2h,z46,z48,z49,z45,z4a,z47,z00,z01,z1j,z0g,z0i,z0k,z0a,z0d,z0c,z0l,z0e,z0f,z0h,z0j,z0m,z5n,z5o,z5l,z5m,z5r,z5k,z5v,z5u,z5p,z5q,z5s,z5t,z0b,z4z,z50,z51,z52,z53,z4x,z4y,z59,z4w,z5j,z54,z55,z56,z57,z58,z5a,z5b,z5c,z5d,z5e,z5f,z5g,z5h,z5i,z1f,z0y,z0x,z0t,z0o,z0u,z0p,z0v,z0q,z0w,z0r,z5x,z5w,z5z,z5y,z61,z60,z63,z62,z65,z64,z6s,z6r,z6n,z6l,z6o,z6m,z6v,z6u,z73,z72,z71,z70,z75,z74,z77,z76,z7a,z79,z6k,z6j,z0s,z0n,z67,z66,z69,z68,z6b,z6a,z6t,z6z,z78,z6i,cP,Try.f140,zt6,zt7,z3a,zt0,true_or,or_true,or_false,false_or,zt4,zt5,zsy,Int.reduceToNat,Int.reduceLT,Int.reduceLE,Int.cast_ofNat_Int,zsn,zt1,Nat.reduceEqDiff,↓reduceIte,Nat.reduceAdd,zsn,zt1,zsl,zsm,zt8,zt9,zta,zt2,reduceCtorEq,zsx,zt3,zst,true_and,and_true,zsp,zsq,Nat.reduceLT,Nat.reduceLeDiff,ztb,if_true,if_false,zso,not_true_eq_false,not_false_eq_true,ztc,zsz,ztd,zte,forall_const,true_implies,false_implies,implies_true,decide_eq_true_eq,decide_eq_false_iff_not,ztf,ztg,zth,eq_self]) <;> ((repeat' first | (refine And.intro ?_ ?_) | (intro _)) <;> try omega)
  all_goals exact fin_0 rfl rfl
theorem l01Next_at (x y : Int) (k : Nat) (p : SpotM) (h8 : in8 x y) (hk : k < 4) (hp : (besideL x y)[k]? = some p) (H : Heap) : ACall Cx.P [] 140 [.agg shSpot (spotD x y), .int .i64 k] H (.agg shSpot (spotV p)) H := (l01Next_c x y k p h8 hk hp).at0 rfl rfl H
end Go.Proofs.Ytjdpdnpfnlpjnaa
