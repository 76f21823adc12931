/- Contracts of functions of the program, by the texts that it imports. No conditions. -/
import Derived.Test.YtkabilbdppmajaaW41
set_option linter.unusedVariables false
set_option linter.unusedSimpArgs false
namespace Go.Proofs.Ytkabilbdppmajaa
open Ink Go
open Bool renaming false_eq_true → zm1, not_true → zmc, not_false → zmq, true_eq_false → zmr, not_eq_true → zms, not_eq_false → zmt, not_eq_eq_eq_not → zmu
open Int renaming toNat_natCast → zmb, add_zero → zmv, zero_add → zmw
open List renaming length_append → zly, cons_append → zlz, length_cons → zm0, set_cons_zero → zm2, set_cons_succ → zm3, take_succ_cons → zm7, drop_succ_cons → zm8, drop_zero → zm9, map_cons → zma, length_nil → zme, map_nil → zmg, replicate_zero → zmh, replicate_succ → zmi, mem_cons → zmj, not_mem_nil → zmk, nil_append → zml, getElem?_cons_zero → zmm, getElem?_cons_succ → zmn, prefix_rfl → zmy, prefix_refl → zmz, nil_prefix → zn0, take_zero → zn1, getD_cons_zero → zn3, getD_cons_succ → zn4
open Nat renaming add_zero → zm4, sub_zero → zm5, zero_le → zmd, zero_add → zmf, le_refl → zmo, mul_zero → zmx, not_lt_zero → zn2, sub_self → zn5
open Option renaming map_some → zm6, isSome_some → zmp
set_option maxRecDepth 100000
set_option linter.all false
theorem l01Next_c (x y : Int) (k : Nat) (p : SpotM) (h8 : in8 x y) (hk : k < 4) (hp : (besideL x y)[k]? = some p) : ACall Cx.P [] 149 [.agg shSpot (spotD x y), .int .i64 k] [] (.agg shSpot (spotV p)) [] := by
  obtain ⟨⟨a1, a2⟩, a3, a4⟩ := h8
  have e1 : IntKind.i8.wrap (x - 1) = x - 1 := wrap_i8 (by omega) (by omega)
  have e2 : IntKind.i8.wrap (x + 1) = x + 1 := wrap_i8 (by omega) (by omega)
  have e3 : IntKind.i8.wrap (y - 1) = y - 1 := wrap_i8 (by omega) (by omega)
  have e4 : IntKind.i8.wrap (y + 1) = y + 1 := wrap_i8 (by omega) (by omega)
  have hkc : k = 0 ∨ k = 1 ∨ k = 2 ∨ k = 3 := by omega
  have c0 : ((0 : Nat) : Int) = 0 := rfl
  have c1 : ((1 : Nat) : Int) = 1 := rfl
  have c2 : ((2 : Nat) : Int) = 2 := rfl
  have c3 : ((3 : Nat) : Int) = 3 := rfl
  refine acall_of_code Cx_ok Try.func149 rfl (by kernel_rfl) rfl (by kernel_rfl) (by simp) ?_
  rcases hkc with rfl | rfl | rfl | rfl <;> (simp [besideL] at hp; subst hp; simp only [spotV,c0,c1,c2,c3,e1,e2,e3,e4,z02,z2g,z2k,z2j,z2i,z2h,z3a,z4a,z49,z2m,z2l,z1v,z1u,z37,z26,z22,z20,z25,z23,z24,z21,z3i,z3o,z3p,z3q,z3l,z3k,z3m,z3j,z3f,z3g,z3r,z3s,z3d,z3e,z3y,z3n,z08,z3x,z3w,z3h,z2n,z2s,z2t,z2r,z2x,z2y,z2w,z1j,z1k,z2c,z2b,z39,z16,z4b,z0x,z1l,z1m,z36,z4q,z3b,z17,z3c,z4p,z2a,z29,z2v,z3t,z3u,z3v,z3z,z35,z34,z2u,z28,z1o,z1p,z1n,z2z,z32,z31,z33,z30,z1c,z1a,z1b,z18,z19,z6t,zd4,zcz,z6r,zd2,zcx,z6s,zd3,zcy,z4f,z4g,z10,z0y,z0z,z4c,z4d,z4e,z13,z12,z11,z4l,z4o,z4k,z27,z1q,z1e,z4s,z4t,z4r,z1g,z1i,z1f,z2d,z2e,z4i,z4j,z4h,z41,z42,z40,z15,z14,z06,z04,z07,z03,z05,z2o,z2p,z2q,z4m,z4n,z1z,z1w,z1y,z1x,z09,z1r,z1t,z1s,z2f,z44,z46,z47,z43,z48,z45,z00,z01,z1h,z0g,z0i,z0k,z0a,z0c,z0b,z0l,z0d,z0e,z0h,z0j,z0m,z5l,z5m,z5j,z5k,z5p,z5i,z5t,z5s,z5n,z5o,z5q,z5r,z0f,z4x,z4y,z4z,z50,z51,z4v,z4w,z57,z4u,z5h,z52,z53,z54,z55,z56,z58,z59,z5a,z5b,z5c,z5d,z5e,z5f,z5g,z1d,z0w,z0v,z0s,z0o,z0t,z0p,z0u,z0q,z5v,z5u,z5z,z5y,z5x,z5w,z61,z60,z63,z62,z65,z64,z6v,z6u,z6m,z6l,z6p,z6n,z6y,z6x,z73,z72,z71,z70,z75,z74,z7p,z7o,z7s,z7r,z6e,z6d,z0r,z0n,z67,z66,z69,z68,z6b,z6a,z6w,z6z,z7q,z6c,cP,Try.f149,zmh,zmi,z38,zmd,true_or,or_true,or_false,false_or,zmj,zmk,zmb,Int.reduceToNat,Int.reduceLT,Int.reduceLE,Int.cast_ofNat_Int,zm0,zme,Nat.reduceEqDiff,↓reduceIte,Nat.reduceAdd,zm0,zme,zly,zlz,zml,zmm,zmn,zmf,reduceCtorEq,zma,zmg,zm6,true_and,and_true,zm2,zm3,Nat.reduceLT,Nat.reduceLeDiff,zmo,if_true,if_false,zm1,not_true_eq_false,not_false_eq_true,zmp,zmc,zmq,zmr,forall_const,true_implies,false_implies,implies_true,decide_eq_true_eq,decide_eq_false_iff_not,zms,zmt,zmu,eq_self]) <;> ((repeat' first | (refine And.intro ?_ ?_) | (intro _)) <;> try omega)
  all_goals exact fin_0 rfl rfl
theorem l01Next_at (x y : Int) (k : Nat) (p : SpotM) (h8 : in8 x y) (hk : k < 4) (hp : (besideL x y)[k]? = some p) (H : Heap) : ACall Cx.P [] 149 [.agg shSpot (spotD x y), .int .i64 k] H (.agg shSpot (spotV p)) H := (l01Next_c x y k p h8 hk hp).at0 rfl rfl H
end Go.Proofs.Ytkabilbdppmajaa
