/- Contracts of functions of the program, by the texts that it imports. No conditions. -/
import Derived.Test.YtaabokmbkohieaaW9
import Derived.Test.YtaabokmbkohieaaInkGg
set_option linter.unusedVariables false
set_option linter.unusedSimpArgs false
namespace Go.Proofs.Ytaabokmbkohieaa
open Ink Go
set_option maxRecDepth 100000
set_option linter.all false
theorem l00Min_c (x y : Int) : ACall Cx.P [] 127 [.int .i64 x, .int .i64 y] [] (.int .i64 (minM x y)) [] := by
  refine acall_of_code Cx_ok Try.func127 rfl (by kernel_rfl) rfl (by kernel_rfl) (by simp) ?_
  simp only [s_mk, s_force, s_gTT, s_gTF, s_gFT, s_gFF, s_nil, s_opS, s_opN, s_gdS, s_gdN, s_dst0, s_dst, s_looknil, s_evtmp, s_evint, s_evbool, s_evstr, s_evnilp, s_evnils, s_evfunc, s_onB, s_onGb, s_onGt, s_onI, s_onDint, s_onDbool, s_onDstr, s_onDagg, s_onAddrp, s_onAddrr, s_onPSp, s_onPSs, s_onASa, s_onASs, s_onTup, s_onFn, s_onSome, s_onSeq, s_onRef, s_onArr, s_gdec, s_gnot, s_gtrue, s_gfalse, s_isPtrp, s_isPtrr, s_isPtrf, s_bndn, s_bnds, s_filln, s_fillc, s_move, s_assign, s_pick, s_alloc, s_box, s_build, s_load, s_store, s_nilCheck, s_bin, s_not, s_slice, s_fieldAddr, s_field, s_indexAddr, s_index, s_extract, s_call, s_callfn, s_builtin, s_len, s_lenS, s_lenN, s_lenStr, s_lenA, s_binI, s_binBe, s_binBn, s_binAe, s_binAn, s_shLss, s_dvLss, s_iLss, s_regionF, s_regionT, s_apn, s_apc, s_apB, s_seq, s_skip, s_ret, s_exit, s_cond, s_block, s_thenN, s_thenR, s_thenE, s_blockN, s_blockR, s_blockE, s_finN, s_finR, s_resn, s_rest, s_resc, s_one1, s_one2, s_one0, s_argn, s_argc, s_ofDi, s_ofDb, s_ofDs, s_ofDa, s_ofDc, s_getD, s_getS, s_setD, s_setS, s_dvn, s_dva, s_dvc0, s_dvc, s_dsn, s_dsa, s_dsc0, s_dsc, s_flda, s_oneI, s_oneP, s_oneR, s_oneF, s_oneS, s_oneN, s_lookeq, s_lookne, s_blockO, a1_get, a2_get, a3_get, a1_set, a2_set1, a2_set2, a3_set1, a3_set2, a3_set3, a1_zero, a2_zero, a3_zero, spot_fld0, spot_fld1, spot_fl0, spot_fl1, spot_of, spot_agg, spot_zero, spot_size, spot_get0, spot_get1, spot_set0, spot_set1, spot_Has, sheet_fld0, sheet_fld1, sheet_fld2, sheet_fld3, sheet_fld4, sheet_fl0, sheet_fl1, sheet_of, sheet_agg, sheet_zero, sheet_get0, sheet_get1, sheet_get2, sheet_get3, sheet_get4, sheet_set0, sheet_set1, sheet_set2, sheet_set22, sheet_set3, sheet_set32, sheet_set33, sheet_set4, sheet_set41, s_binSpot, e_arragg, e_arr3, cty2, ckt2, cty3, ckt3, cty4, ckt4, cty5, ckt5, cty6, ckt6, cty9, ckt9, cty10, ckt10, crf1, ckr1, crf58, ckr58, crf59, ckr59, crf61, ckr61, cap1_5, cP, Try.f127, List.replicate_zero, List.replicate_succ, s_may, Nat.zero_le, true_or, or_true, or_false, false_or, List.mem_cons, List.not_mem_nil, Int.toNat_natCast, Int.reduceToNat, Int.reduceLT, Int.reduceLE, Int.cast_ofNat_Int, List.length_cons, List.length_nil, Nat.reduceEqDiff, ↓reduceIte, Nat.reduceAdd, List.length_cons, List.length_nil, List.length_append, List.cons_append, List.nil_append, List.getElem?_cons_zero, List.getElem?_cons_succ, Nat.zero_add, reduceCtorEq, List.map_cons, List.map_nil, Option.map_some, true_and, and_true, List.set_cons_zero, List.set_cons_succ, Nat.reduceLT, Nat.reduceLeDiff, Nat.le_refl, if_true, if_false, Bool.false_eq_true, not_true_eq_false, not_false_eq_true, Option.isSome_some, Bool.not_true, Bool.not_false, Bool.true_eq_false, forall_const, true_implies, false_implies, implies_true, decide_eq_true_eq, decide_eq_false_iff_not, Bool.not_eq_true, Bool.not_eq_false, Bool.not_eq_eq_eq_not, eq_self]
  ((repeat' first | (refine And.intro ?_ ?_) | (intro _)) <;> try omega)
  · rename_i h
    exact fin_0 rfl (by rw [minM, if_pos h])
  · rename_i h
    exact fin_0 rfl (by rw [minM, if_neg h])
theorem l00Min_at (x y : Int) (H : Heap) : ACall Cx.P [] 127 [.int .i64 x, .int .i64 y] H (.int .i64 (minM x y)) H := (l00Min_c x y).at0 rfl rfl H
end Go.Proofs.Ytaabokmbkohieaa
