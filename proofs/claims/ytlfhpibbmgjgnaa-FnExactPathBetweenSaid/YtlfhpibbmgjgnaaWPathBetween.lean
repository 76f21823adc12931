/- The law FnExactPathBetween answers true for all arguments. No conditions. -/
import Derived.Test.YtlfhpibbmgjgnaaW112
import Derived.Test.YtlfhpibbmgjgnaaW2
import Derived.Test.YtlfhpibbmgjgnaaW9
import Derived.Test.YtlfhpibbmgjgnaaInkGe
import Derived.Test.YtlfhpibbmgjgnaaRows
set_option linter.unusedVariables false
set_option linter.unusedSimpArgs false
namespace Go.Proofs.Ytlfhpibbmgjgnaa
open Ink Go
open Bool renaming false_eq_true → zo0, not_true → zob, not_false → zop, true_eq_false → zoq, not_eq_true → zor, not_eq_false → zos, not_eq_eq_eq_not → zot
open Int renaming toNat_natCast → zoa, add_zero → zou, zero_add → zov
open List renaming length_append → znx, cons_append → zny, length_cons → znz, set_cons_zero → zo1, set_cons_succ → zo2, take_succ_cons → zo6, drop_succ_cons → zo7, drop_zero → zo8, map_cons → zo9, length_nil → zod, map_nil → zof, mem_cons → zog, not_mem_nil → zoh, replicate_zero → zoj, replicate_succ → zok, nil_append → zol, getElem?_cons_zero → zom, getElem?_cons_succ → zon, prefix_rfl → zox, prefix_refl → zoy, nil_prefix → zoz, take_zero → zp0, getD_cons_zero → zp2, getD_cons_succ → zp3
open Nat renaming add_zero → zo3, sub_zero → zo4, zero_le → zoc, zero_add → zoe, le_refl → zoo, mul_zero → zow, not_lt_zero → zp1, sub_self → zp4
open Option renaming map_some → zo5, isSome_some → zoi
set_option maxRecDepth 100000
set_option linter.all false
open Go.ChangeShapes Go.WideShapes Go.ChangeAt Go.RowKit
theorem FnPathBetween_c (s0 : SheetM) (h0 : s0.Ok) (x1 y1 : Int) (a1 : ok8 x1) (b1 : ok8 y1) (x2 y2 : Int) (a2 : ok8 x2) (b2 : ok8 y2) : ACall Cx.P [] 6 [.agg shSheet (sheetD s0), .agg shSpot (spotD x1 y1), .agg shSpot (spotD x2 y2)] [] (.bool true) [] := by
  have n0 := nS_Ok h0
  refine acall_of_code Cx_ok Try.func6 rfl (by kernel_rfl) rfl (by kernel_rfl) (by simp) ?_
  simp only [z02,z2p,z2t,z2s,z2r,z2q,z3k,z4t,z4s,z2v,z2u,z24,z23,z3h,z2f,z2b,z29,z2e,z2c,z2d,z2a,z3s,z3y,z3z,z40,z3v,z3u,z3w,z3t,z3p,z3q,z4c,z4b,z49,z48,z3a,z43,z44,z3n,z3o,z4h,z3x,z08,z4d,z4a,z3r,z2w,z31,z32,z30,z36,z37,z35,z1s,z1t,z2l,z2k,z3j,z1a,z4u,z11,z1u,z1v,z3g,z5a,z3l,z1b,z3m,z58,z4e,z4g,z4f,z41,z42,z59,z2j,z2i,z34,z45,z46,z47,z4i,z3f,z3e,z33,z2h,z1x,z1y,z1w,z38,z3c,z3b,z3d,z39,za5,z1g,z1j,z1k,z1l,z1h,z1i,z1e,z1f,z1c,z1d,z9m,z6y,z9k,z6w,z9l,z6x,z4y,z4z,z14,z12,z13,z4v,z4w,z4x,z17,z16,z15,z54,z57,z53,z2g,z1z,z1n,z5c,z5d,z5b,z1p,z1r,z1o,z2m,z2n,z51,z52,z50,z4k,z4l,z4j,z19,z18,z06,z04,z07,z03,z05,z2x,z2y,z2z,z55,z56,z28,z25,z27,z26,z09,z20,z22,z21,z2o,z4n,z4p,z4q,z4m,z4r,z4o,z00,z01,z1q,z0g,z0i,z0k,z0b,z0d,z0c,z0l,z0e,z0f,z0h,z0j,z0m,z65,z66,z63,z64,z69,z62,z6e,z6d,z67,z68,z6b,z6c,z0a,z5h,z5i,z5j,z5k,z5l,z5f,z5g,z5r,z5e,z61,z5m,z5n,z5o,z5p,z5q,z5s,z5t,z5u,z5v,z5w,z5x,z5y,z5z,z60,z6a,z1m,z10,z0z,z0u,z0o,z0v,z0p,z0w,z0q,z0x,z0r,z0y,z0s,z6g,z6f,z6j,z6h,z6k,z6i,z6m,z6l,z7b,z76,z73,z72,z7w,z7u,z8u,z8r,z8v,z8s,z8w,z8t,z80,z7z,z87,z86,z8l,z8j,z8p,z8n,z8d,z8c,z8f,z8e,z8q,z8o,z8b,z89,z9f,z9c,z6t,z6s,z7a,z79,z7f,z7e,z7p,z7o,z7j,z7i,z0t,z0n,z6o,z6n,z6q,z6p,z6v,z6u,z77,z74,z78,z75,z7d,z7c,z7n,z7m,z7l,z7k,z7v,z7t,z7y,z7x,z83,z81,z84,z82,z8k,z8i,z8h,z8g,z8a,z88,z94,z93,z97,z95,z9i,z9g,z7h,z7g,z90,z8z,za2,z9z,za3,za0,za4,za1,z9t,z9n,za9,za8,z9u,z9o,z7r,z7q,z9v,z9p,z92,z91,za7,za6,z9d,z9a,z9w,z9q,z9x,z9r,z8y,z8x,z9e,z9b,z9y,z9s,z98,z96,zc8,zc6,zbp,zbo,zbx,zbu,zby,zbv,zcj,zci,z7s,z85,z8m,z99,z6r,zh0,zh1,zh2,zh3,zh4,zh5,zh6,zgy,zgv,zgz,zgw,zgx,zgu,cP,Try.f6,zoj,zok,z3i,zoc,true_or,or_true,or_false,false_or,zog,zoh,zoa,Int.reduceToNat,Int.reduceLT,Int.reduceLE,Int.cast_ofNat_Int,znz,zod,Nat.reduceEqDiff,↓reduceIte,Nat.reduceAdd,znz,zod,znx,zny,zol,zom,zon,zoe,reduceCtorEq,zo9,zof,zo5,true_and,and_true,zo1,zo2,Nat.reduceLT,Nat.reduceLeDiff,zoo,if_true,if_false,zo0,not_true_eq_false,not_false_eq_true,zoi,zob,zop,zoq,forall_const,true_implies,false_implies,implies_true,decide_eq_true_eq,decide_eq_false_iff_not,zor,zos,zot,eq_self]
  rcases path_casesL (nS s0) ⟨x1, y1⟩ ⟨x2, y2⟩ with ⟨D, L, hv, fa, fb, hD, hL, hLl⟩ | ⟨c, e, hc⟩
  all_goals
    (repeat' first | (refine And.intro ?_ ?_) | (intro _) | ((first | (refine qcall_go (fun _ => toSheet_at _ _) ?_) | (refine acall_go (toSheet_at _ _) ?_) | (refine qcall_go (fun _ => toSpot_at _ _ _) ?_) | (refine acall_go (toSpot_at _ _ _) ?_) | (refine qcall_go (fun _ => specPBL_at _ ⟨x1, y1⟩ ⟨x2, y2⟩ L n0 ⟨a1, b1⟩ ⟨a2, b2⟩ hv fa fb hD hL _) ?_) | (refine acall_go (specPBL_at _ ⟨x1, y1⟩ ⟨x2, y2⟩ L n0 ⟨a1, b1⟩ ⟨a2, b2⟩ hv fa fb hD hL _) ?_) | (refine qcall_go (fun _ => implPBL_at _ ⟨x1, y1⟩ ⟨x2, y2⟩ L n0 hv fa fb hD hL _) ?_) | (refine acall_go (implPBL_at _ ⟨x1, y1⟩ ⟨x2, y2⟩ L n0 hv fa fb hD hL _) ?_) | (refine qcall_go (fun _ => specPB_no_at _ ⟨x1, y1⟩ ⟨x2, y2⟩ n0 ⟨a1, b1⟩ ⟨a2, b2⟩ e hc _) ?_) | (refine acall_go (specPB_no_at _ ⟨x1, y1⟩ ⟨x2, y2⟩ n0 ⟨a1, b1⟩ ⟨a2, b2⟩ e hc _) ?_) | (refine qcall_go (fun _ => implPB_no2_at _ ⟨x1, y1⟩ ⟨x2, y2⟩ n0 e hc _) ?_) | (refine acall_go (implPB_no2_at _ ⟨x1, y1⟩ ⟨x2, y2⟩ n0 e hc _) ?_) | (refine qcall_go (fun _ => eqPB_at L hLl rfl rfl (by decide)) ?_) | (refine acall_go (eqPB_at L hLl rfl rfl (by decide)) ?_) | (refine qcall_go (fun _ => eqSpotS_nil_at rfl) ?_) | (refine acall_go (eqSpotS_nil_at rfl) ?_) | (refine qcall_go (fun _ => markSpotS_nil_at _) ?_) | (refine acall_go (markSpotS_nil_at _) ?_) | (refine qcall_go (fun _ => heldPB_at _ hLl rfl) ?_) | (refine acall_go (heldPB_at _ hLl rfl) ?_) | (refine qcall_go (fun _ => heldSpotS_nil_at _) ?_) | (refine acall_go (heldSpotS_nil_at _) ?_) | (refine acall_goW (markPB_at L hLl rfl) (by simp [may]) ?_)); simp only [z02,z2p,z2t,z2s,z2r,z2q,z3k,z4t,z4s,z2v,z2u,z24,z23,z3h,z2f,z2b,z29,z2e,z2c,z2d,z2a,z3s,z3y,z3z,z40,z3v,z3u,z3w,z3t,z3p,z3q,z4c,z4b,z49,z48,z3a,z43,z44,z3n,z3o,z4h,z3x,z08,z4d,z4a,z3r,z2w,z31,z32,z30,z36,z37,z35,z1s,z1t,z2l,z2k,z3j,z1a,z4u,z11,z1u,z1v,z3g,z5a,z3l,z1b,z3m,z58,z4e,z4g,z4f,z41,z42,z59,z2j,z2i,z34,z45,z46,z47,z4i,z3f,z3e,z33,z2h,z1x,z1y,z1w,z38,z3c,z3b,z3d,z39,za5,z1g,z1j,z1k,z1l,z1h,z1i,z1e,z1f,z1c,z1d,z9m,z6y,z9k,z6w,z9l,z6x,z4y,z4z,z14,z12,z13,z4v,z4w,z4x,z17,z16,z15,z54,z57,z53,z2g,z1z,z1n,z5c,z5d,z5b,z1p,z1r,z1o,z2m,z2n,z51,z52,z50,z4k,z4l,z4j,z19,z18,z06,z04,z07,z03,z05,z2x,z2y,z2z,z55,z56,z28,z25,z27,z26,z09,z20,z22,z21,z2o,z4n,z4p,z4q,z4m,z4r,z4o,z00,z01,z1q,z0g,z0i,z0k,z0b,z0d,z0c,z0l,z0e,z0f,z0h,z0j,z0m,z65,z66,z63,z64,z69,z62,z6e,z6d,z67,z68,z6b,z6c,z0a,z5h,z5i,z5j,z5k,z5l,z5f,z5g,z5r,z5e,z61,z5m,z5n,z5o,z5p,z5q,z5s,z5t,z5u,z5v,z5w,z5x,z5y,z5z,z60,z6a,z1m,z10,z0z,z0u,z0o,z0v,z0p,z0w,z0q,z0x,z0r,z0y,z0s,z6g,z6f,z6j,z6h,z6k,z6i,z6m,z6l,z7b,z76,z73,z72,z7w,z7u,z8u,z8r,z8v,z8s,z8w,z8t,z80,z7z,z87,z86,z8l,z8j,z8p,z8n,z8d,z8c,z8f,z8e,z8q,z8o,z8b,z89,z9f,z9c,z6t,z6s,z7a,z79,z7f,z7e,z7p,z7o,z7j,z7i,z0t,z0n,z6o,z6n,z6q,z6p,z6v,z6u,z77,z74,z78,z75,z7d,z7c,z7n,z7m,z7l,z7k,z7v,z7t,z7y,z7x,z83,z81,z84,z82,z8k,z8i,z8h,z8g,z8a,z88,z94,z93,z97,z95,z9i,z9g,z7h,z7g,z90,z8z,za2,z9z,za3,za0,za4,za1,z9t,z9n,za9,za8,z9u,z9o,z7r,z7q,z9v,z9p,z92,z91,za7,za6,z9d,z9a,z9w,z9q,z9x,z9r,z8y,z8x,z9e,z9b,z9y,z9s,z98,z96,zc8,zc6,zbp,zbo,zbx,zbu,zby,zbv,zcj,zci,z7s,z85,z8m,z99,z6r,zh0,zh1,zh2,zh3,zh4,zh5,zh6,zgy,zgv,zgz,zgw,zgx,zgu,cP,Try.f6,zoj,zok,z3i,zoc,true_or,or_true,or_false,false_or,zog,zoh,zoa,Int.reduceToNat,Int.reduceLT,Int.reduceLE,Int.cast_ofNat_Int,znz,zod,Nat.reduceEqDiff,↓reduceIte,Nat.reduceAdd,znz,zod,znx,zny,zol,zom,zon,zoe,reduceCtorEq,zo9,zof,zo5,true_and,and_true,zo1,zo2,Nat.reduceLT,Nat.reduceLeDiff,zoo,if_true,if_false,zo0,not_true_eq_false,not_false_eq_true,zoi,zob,zop,zoq,forall_const,true_implies,false_implies,implies_true,decide_eq_true_eq,decide_eq_false_iff_not,zor,zos,zot,eq_self])) <;> try omega
  all_goals exact fin_0 rfl rfl
theorem pureT_PathBetween : (Try.f6.params.toList.all fun t => pureT Try.prog 8 t) = true := by kernel_rfl
theorem own_PathBetween : ownKnob Try.prog.godebug = none := by kernel_rfl
theorem PathBetween_lifted (os : Os) (started : os.Started) (H : Type) (enc : TypeId × Value → H) :
    ReturnsInHanded {} Try.checked os 6 .any (Rows.fnExactPathBetweenSpec.pre6 enc Try.prog Try.f6 Rows.fnExactPathBetweenRow.domain false) (Rows.fnExactPathBetweenSpec.post enc Try.prog Try.f6 false true false false) := by
  refine returnsInHanded_of_change (C := Try.checked) own_PathBetween started (by kernel_rfl) Try.func6
    (ChangeSpec.witness6 (enc := enc) (C := Try.checked) false ⟨#[], #[.agg (flat shSheet (sheetD zeroSheet)).toArray, .agg (flat shSpot (spotD 0 0)).toArray, .agg (flat shSpot (spotD 0 0)).toArray], []⟩ 8 (by kernel_rfl) (by kernel_rfl) (by kernel_rfl) (by kernel_rfl)) ?_
  intro W base args ds gs before hval0 hW hcnd _
  have hval : ∀ (j : Nat) t v, Try.f6.params[j]? = some t → args[j]? = some v → Value.okWide Try.prog W .any base t v := hval0
  have hW' := hW
  obtain ⟨p, q, hA0, hV, rfl, hfz, hnd⟩ := hW
  have hA : DataW.TrodAll enc Try.prog W 0 (fun _ => true) true Try.f6.params.toList args.toList ds p := hA0
  rw [Try.params6] at hA hval
  obtain ⟨hl1, hl2⟩ := trod_len hA
  obtain ⟨v0, v1, v2, rfl⟩ := arr3 hl1
  obtain ⟨d0, d1, d2, rfl⟩ := list3 hl2
  obtain ⟨rfl, rfl⟩ := trodVars_none hV
  have hv0 := hval 0 _ v0 rfl rfl
  have hv1 := hval 1 _ v1 rfl rfl
  have hv2 := hval 2 _ v2 rfl rfl
  obtain ⟨s0, h0, rfl⟩ := open_sheet (by kernel_rfl) (by kernel_rfl) (by kernel_rfl) hv0
  obtain ⟨x1, y1, a1, b1, rfl⟩ := open_spot (by kernel_rfl) (by kernel_rfl) (by kernel_rfl) hv1
  obtain ⟨x2, y2, a2, b2, rfl⟩ := open_spot (by kernel_rfl) (by kernel_rfl) (by kernel_rfl) hv2
  refine ((FnPathBetween_c s0 h0 x1 y1 a1 b1 x2 y2 a2 b2).2 (fun _ => 0) W [.agg (flat shSheet (sheetD s0)).toArray, .agg (flat shSpot (spotD x1 y1)).toArray, .agg (flat shSpot (spotD x2 y2)).toArray] ⟨fun i B h => by simp at h, fun i j A B h => by simp at h⟩ ⟨⟨rfl, zho, rfl⟩, ⟨rfl, z0a, rfl⟩, ⟨rfl, z0a, rfl⟩, trivial⟩).mono fun e W' h => ?_
  obtain ⟨x, ρ', rfl, hinv, hx⟩ := h
  simp only [Rv] at hx
  subst hx
  exact ⟨_, rfl, post_true (tb := 4) hW' rfl pureT_PathBetween (by kernel_rfl) (by kernel_rfl) rfl rfl rfl (kept_of_inv hinv)⟩
theorem PathBetween_holds : Rows.FnExactPathBetweenSaid :=
  OpenClaim.holds_of_wide 6 Try.f6 rfl rfl rfl rfl rfl rfl rfl ⟨rfl, rfl, rfl, rfl, rfl⟩ rfl rfl rfl rfl rfl (by kernel_rfl) Try.func6 (by kernel_rfl)
    (of_decide_eq_true (by kernel_rfl)) (by unfold Func.isWrapper; first | (rw [if_pos (by decide +kernel)]; kernel_rfl) | (rw [if_neg (by decide +kernel)]; exact ⟨rfl, rfl⟩))
    (fun os started H enc _ => PathBetween_lifted os started H enc)
end Go.Proofs.Ytlfhpibbmgjgnaa

