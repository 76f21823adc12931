/- Contracts of functions of the program, by the texts that it imports. No conditions. -/
import Derived.Test.YtjdpdnpfnlpjnaaW88
import Derived.Test.YtjdpdnpfnlpjnaaW86
import Derived.Test.YtjdpdnpfnlpjnaaInkGj
set_option linter.unusedVariables false
set_option linter.unusedSimpArgs false
namespace Go.Proofs.Ytjdpdnpfnlpjnaa
open Ink Go
open Bool renaming false_eq_true → zjf, not_true → zjq, not_false → zk4, true_eq_false → zk5, not_eq_true → zk6, not_eq_false → zk7, not_eq_eq_eq_not → zk8
open Int renaming toNat_natCast → zjp, add_zero → zk9, zero_add → zka
open List renaming length_append → zjc, cons_append → zjd, length_cons → zje, set_cons_zero → zjg, set_cons_succ → zjh, take_succ_cons → zjl, drop_succ_cons → zjm, drop_zero → zjn, map_cons → zjo, length_nil → zjs, replicate_zero → zju, replicate_succ → zjv, mem_cons → zjw, not_mem_nil → zjx, nil_append → zjy, getElem?_cons_zero → zjz, getElem?_cons_succ → zk0, map_nil → zk1, prefix_rfl → zkc, prefix_refl → zkd, nil_prefix → zke, take_zero → zkf, getD_cons_zero → zkh, getD_cons_succ → zki
open Nat renaming add_zero → zji, sub_zero → zjj, zero_le → zjr, zero_add → zjt, le_refl → zk2, mul_zero → zkb, not_lt_zero → zkg, sub_self → zkj
open Option renaming map_some → zjk, isSome_some → zk3
set_option maxRecDepth 100000
set_option maxHeartbeats 1000000
set_option linter.all false
theorem size_c (L : List SheetM) (hN : L.length ≤ 1048576) : ACall Cx.P [] 106 [.slc 0 0 L.length] [.seq true shSheet (L.map sheetD)] (.int .i64 (L.length : Nat)) [.seq true shSheet (L.map sheetD)] := by
  have e1 : IntKind.i64.wrap ((L.length : Nat) : Int) = (L.length : Nat) := wrap_i64 (by omega) (by omega)
  refine acall_of_code Cx_ok Try.func106 rfl (by kernel_rfl) rfl (by kernel_rfl) (by simp) ?_
  simp only [e1,z02,z2j,z2n,z2m,z2l,z2k,z3e,z4i,z4h,z2p,z2o,z1y,z1x,z3b,z29,z25,z23,z28,z26,z27,z24,z3m,z3s,z3t,z3u,z3p,z3o,z3q,z3n,z3j,z3k,z44,z43,z41,z40,z34,z3v,z3w,z3h,z3i,z46,z3r,z08,z45,z42,z3l,z2q,z2v,z2w,z2u,z30,z31,z2z,z1m,z1n,z2f,z2e,z3d,z17,z4j,z0y,z1o,z1p,z3a,z4z,z3f,z18,z3g,z4x,z4y,z2d,z2c,z2y,z3x,z3y,z3z,z47,z39,z38,z2x,z2b,z1r,z1s,z1q,z32,z36,z35,z37,z33,z1d,z1e,z1f,z1b,z1c,z19,z1a,z4n,z4o,z11,z0z,z10,z4k,z4l,z4m,z14,z13,z12,z4t,z4w,z4s,z2a,z1t,z1h,z51,z52,z50,z1j,z1l,z1i,z2g,z2h,z4q,z4r,z4p,z49,z4a,z48,z16,z15,z06,z04,z07,z03,z05,z2r,z2s,z2t,z4u,z4v,z22,z1z,z21,z20,z09,z1u,z1w,z1v,z2i,z4c,z4e,z4f,z4b,z4g,z4d,z00,z01,z1k,z0f,z0h,z0j,z0a,z0c,z0b,z0k,z0d,z0e,z0g,z0i,z0l,z5v,z5w,z5t,z5u,z5z,z5s,z63,z62,z5x,z5y,z60,z61,z5r,z56,z57,z58,z59,z5a,z54,z55,z5g,z53,z5q,z5b,z5c,z5d,z5e,z5f,z5h,z5i,z5j,z5k,z5l,z5m,z5n,z5o,z5p,z1g,z0x,z0w,z0s,z0n,z0t,z0o,z0u,z0p,z0v,z0q,z6j,z6i,z9g,z9c,z88,z87,z0r,z0m,z8w,z8v,z86,z85,z98,cP,Try.f106,zju,zjv,z3c,zjr,true_or,or_true,or_false,false_or,zjw,zjx,zjp,Int.reduceToNat,Int.reduceLT,Int.reduceLE,Int.cast_ofNat_Int,zje,zjs,Nat.reduceEqDiff,↓reduceIte,Nat.reduceAdd,zje,zjs,zjc,zjd,zjy,zjz,zk0,zjt,reduceCtorEq,zjo,zk1,zjk,true_and,and_true,zjg,zjh,Nat.reduceLT,Nat.reduceLeDiff,zk2,if_true,if_false,zjf,not_true_eq_false,not_false_eq_true,zk3,zjq,zk4,zk5,forall_const,true_implies,false_implies,implies_true,decide_eq_true_eq,decide_eq_false_iff_not,zk6,zk7,zk8,eq_self]
  ((repeat' first | (refine And.intro ?_ ?_) | (intro _)) <;> try omega)
  exact fin_1 rfl rfl rfl
theorem size_at (L : List SheetM) (hN : L.length ≤ 1048576) {H : Heap} {b : Nat} (hb : H[b]? = some (.seq true shSheet (L.map sheetD))) : ACall Cx.P [] 106 [.slc b 0 L.length] H (.int .i64 (L.length : Nat)) H :=
  (size_c L hN).at1 rfl hb (by simp [inScopes, inScope]) (by simp [rens, ren, kap]) rfl
theorem Delete_c (L : List SheetM) (i : Nat) (hi : i < L.length) (hN : L.length ≤ 1000) : ACall Cx.P [0] 107 [.slc 0 0 L.length, .int .i64 (i : Int), .int .i64 ((i : Int) + 1)] [.seq true shSheet (L.map sheetD)] (.slk 0 0 (L.length - 1) L.length) [.seq true shSheet ((outL L i).map sheetD ++ [sheetD zeroSheet])] := by
  have hll : (L.map sheetD).length = L.length := List.length_map sheetD
  have hz : shSheet.size ≤ 10000 := by decide
  have hne : ¬ (i : Int) = (i : Int) + 1 := by omega
  have et : ((i : Int) + 1).toNat = i + 1 := by omega
  refine acall_of_code Cx_ok Try.func107 rfl (by kernel_rfl) rfl (by kernel_rfl) (by simp) ?_
  simp only [et,hne,zjp,z02,z2j,z2n,z2m,z2l,z2k,z3e,z4i,z4h,z2p,z2o,z1y,z1x,z3b,z29,z25,z23,z28,z26,z27,z24,z3m,z3s,z3t,z3u,z3p,z3o,z3q,z3n,z3j,z3k,z44,z43,z41,z40,z34,z3v,z3w,z3h,z3i,z46,z3r,z08,z45,z42,z3l,z2q,z2v,z2w,z2u,z30,z31,z2z,z1m,z1n,z2f,z2e,z3d,z17,z4j,z0y,z1o,z1p,z3a,z4z,z3f,z18,z3g,z4x,z4y,z2d,z2c,z2y,z3x,z3y,z3z,z47,z39,z38,z2x,z2b,z1r,z1s,z1q,z32,z36,z35,z37,z33,zja,z8z,z1d,z1e,z1f,z1b,z1c,z19,z1a,zfh,zff,zfg,z4n,z4o,z11,z0z,z10,z4k,z4l,z4m,z14,z13,z12,z4t,z4w,z4s,z2a,z1t,z1h,z51,z52,z50,z1j,z1l,z1i,z2g,z2h,z4q,z4r,z4p,z49,z4a,z48,z16,z15,z06,z04,z07,z03,z05,z2r,z2s,z2t,z4u,z4v,z22,z1z,z21,z20,z09,z1u,z1w,z1v,z2i,z4c,z4e,z4f,z4b,z4g,z4d,z00,z01,z1k,z0f,z0h,z0j,z0a,z0c,z0b,z0k,z0d,z0e,z0g,z0i,z0l,z5v,z5w,z5t,z5u,z5z,z5s,z63,z62,z5x,z5y,z60,z61,z5r,z56,z57,z58,z59,z5a,z54,z55,z5g,z53,z5q,z5b,z5c,z5d,z5e,z5f,z5h,z5i,z5j,z5k,z5l,z5m,z5n,z5o,z5p,z1g,z0x,z0w,z0s,z0n,z0t,z0o,z0u,z0p,z0v,z0q,z65,z64,z67,z66,z6b,z68,z6c,z69,z6d,z6a,z6t,z6s,z6v,z6u,z6r,z6q,z73,z70,z74,z71,z75,z72,z6x,z6w,z7d,z7c,z78,z77,z7f,z7e,z7i,z7h,z6j,z6i,z6p,z6o,z0r,z0m,z6f,z6e,z6h,z6g,z6l,z6k,z6n,z6m,z6y,z6z,z76,z7g,zj9,zj8,cP,Try.f107,zju,zjv,z3c,zjr,true_or,or_true,or_false,false_or,zjw,zjx,zjp,Int.reduceToNat,Int.reduceLT,Int.reduceLE,Int.cast_ofNat_Int,zje,zjs,Nat.reduceEqDiff,↓reduceIte,Nat.reduceAdd,zje,zjs,zjc,zjd,zjy,zjz,zk0,zjt,reduceCtorEq,zjo,zk1,zjk,true_and,and_true,zjg,zjh,Nat.reduceLT,Nat.reduceLeDiff,zk2,if_true,if_false,zjf,not_true_eq_false,not_false_eq_true,zk3,zjq,zk4,zk5,forall_const,true_implies,false_implies,implies_true,decide_eq_true_eq,decide_eq_false_iff_not,zk6,zk7,zk8,eq_self]
  ((repeat' first | (refine And.intro ?_ ?_) | (intro _)) <;> try omega)
  · simp only [List.length_take,List.length_drop,hll]; omega
  · have k1 : i + (L.length - (i + 1)) = L.length - 1 := by omega
    have k4 : L.length - (L.length - 1) = 1 := by omega
    have ho := out_in hi
    rw [k1] at ho
    simp only [zjj,k1,k4]
    rw [ho, out_clear hi]
    refine fin_k [] (by simp) rfl rfl (by decide) ?_ ?_ ?_ <;> simp (disch := omega) only [zc6,zc5,zb7,zc0,zbi,zb9,zb8,zbu,zbv,zbx,zbw,zbq,zbn,zby,zbm,zbr,zbt,zbp,zbz,zbs,zbo,zbf,zbk,zc3,zc2,zbb,zb6,zc4,zb5,zbe,zbc,zba,zc7,zbj,zbg,zc1,zbd,zbh,zbl,sumTo_zero,sumCells_zero,upTo_const,zk9,zka,zjp,z06,z04,z07,z03,z05,zkb,cellsTo_zero,zkc,zkd,zke,implies_true,imp_self,zju,z00,z01,z08,z02,zjl,zkf,zjm,zjn,upTo_zero,upTo_succ,wrap_i64,wrap_i16,wrap_i8,wrap_u8,cast_succ,cast_zero,Nat.reduceEqDiff,↓reduceIte,Nat.reduceAdd,Nat.reduceSub,zje,zjs,zjc,zjd,zjy,zjz,zk0,zjt,true_and,and_true,Nat.reduceLT,zkg,zkh,zki,Nat.reduceLeDiff,not_false_eq_true,and_self,zji,zjj,zkj]
theorem Delete_at (L : List SheetM) (i : Nat) (hi : i < L.length) (hN : L.length ≤ 1000) {H : Heap} {b : Nat} (hb : H[b]? = some (.seq true shSheet (L.map sheetD))) : ACall Cx.P [b] 107 [.slc b 0 L.length, .int .i64 (i : Int), .int .i64 ((i : Int) + 1)] H (.slc b 0 (L.length - 1)) (H.set b (.seq true shSheet ((outL L i).map sheetD ++ [sheetD zeroSheet]))) := by
  have h := (Delete_c L i hi hN).resW (v' := .slc 0 0 (L.length - 1)) fun _ _ _ _ hr => slk_slc hr
  have := ACall.frame1 h hb (fun _ => rfl) (fun _ => rfl) (by simp [inScopes, inScope]) trivial (by simp) (Or.inr rfl) rfl rfl
  simpa [rens, ren, kap, renB] using this
end Go.Proofs.Ytjdpdnpfnlpjnaa
