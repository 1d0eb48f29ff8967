/-
  EXTEND, fourteenth walks: the laws' small functions and their example.
-/
import Derived.Test.YtaakjjhifhjbfaaDoorE13
import Derived.Test.YtaakjjhifhjbfaaDoorE25
import Derived.Test.YtaakjjhifhjbfaaDoorL3
import Derived.Test.YtaakjjhifhjbfaaDoorL2
namespace Go.Abs
open Go.Proofs
set_option maxRecDepth 100000 in
set_option maxHeartbeats 900000 in
theorem fn_few (G : Glob) (c : Cn) (m : Pl) : Fn G Tryd.prog 18 [.agg (cnC c), .agg (plC m)] (.bool (decide (fewC c) && decide (m.v.length ≤ 14))) := by
  have hF := fn_Few G c
  unfold cnC plC at *
  refine Fn.mk (c := _) Tryd.func18 rfl rfl Tryd.ntmps18 Tryd.results18 ?_
  (simp -dsimp only [bodyW, List.length_cons, List.length_nil, Nat.zero_add, Nat.reduceAdd, Nat.reduceLeDiff, wfL, ↓z_seq, ↓z_region, ↓z_ops_plain, ↓z_box, ↓evW_tmp, ↓z_lk_env, ↓reduceIte, ↓z_cl_agg, ↓z_nmC_cons, ↓z_mn'_sl, ↓z_mn'_int, ↓z_nmC_nil, and_self, ↓z_new, ↓z_nm_nil, Nat.reduceLT, ↓z_pg_env, ↓z_mn_agg, ↓z_pg_env0, ↓z_put, ↓lkW_cons, Nat.reduceEqDiff, reduceCtorEq, ↓z_nm_cons, ↓z_pg_cons, ↓z_mn_ptr, ↓z_pg_nil, ↓z_assign, ↓evW_const, ↓constW_bool, ↓z_ops_nil, ↓z_seq_nrm, ↓z_load, ↓y_ty25, ↓y_sz25, ↓z_agTy_st, ↓loadW_ptr, ↓lkoW_cons, ↓z_rd_t, ↓z_sub_c, ↓z_sub_nil, ↓z_callv, ↓evW_func, ↓z_evL_cons, ↓z_evL_nil, ↓z_fun0, ↓z_coeL_cons, ↓z_coe_oag, ↓z_coeC_cons, ↓z_coeS_sl, ↓z_coeS_int, ↓z_coeC_nil, ↓z_coeL_nil, true_and])
  intro _ _
  refine call_fnL hF rfl fun _ => ?_
  (simp -dsimp only [↓z_put, Nat.reduceLT, ↓z_ops_plain, ↓z_move, ↓evW_tmp, ↓lkW_cons, ↓reduceIte, ↓z_ops_guard, ↓z_grd, ↓z_dst_s, ↓z_dst_0, ↓z_grdD_b, ↓z_gdt, ↓z_fieldAddr, Nat.reduceEqDiff, ↓y_fl34x4, ↓y_sz32, ne_eq, reduceCtorEq, not_false_eq_true, ↓z_fa_ptr, ↓z_gtt, ↓z_load, ↓y_ty32, ↓z_agTy_sl, ↓loadW_ptr, ↓lkoW_cons, Nat.zero_add, ↓z_rd_f, ↓nthW_cons, Nat.reduceSub, ↓z_callb, ↓z_evL_cons, ↓z_evL_nil, ↓z_len, ↓z_ln_sl, ↓z_binOp, ↓evW_const, ↓constW_int, inR_i64, Int.reduceNeg, Int.reduceLE, and_self, ↓z_bn_leq, ↓z_pick, ↓z_pick_b, ↓z_assign, ↓z_ops_nil, ↓z_seq_nrm, ↓z_ret, ↓z_end_rt, resLW, res1W, ↓z_coeL_cons, Nat.reduceAdd, ↓z_coeL_nil, ↓z_pack1, ↓z_coe_bool, D.bool.injEq, true_and, ↓z_gnt, ↓z_gtf, ↓constW_bool, Bool.not_true, z_ite]); (try simp only [Int.toNat_natCast, Nat.mul_one, Bool.or_false, Bool.false_or, Bool.or_self, Bool.or_true])
  exact ⟨fun g => by rw [decide_eq_true g, Bool.true_and]; exact decide_eq_decide.2 (by omega), fun g => by rw [decide_eq_false g, Bool.false_and]⟩
theorem slD_len (c : Cn) (m : Pl) (h t : Int) (y : Bool) : (slD c m h t y).length = 16 := by
  unfold slD; split
  · exact sealD_len ..
  · rfl
/-- A vote as the laws make it. -/
def balB (c : Cn) (m : Pl) (h t : Int) (y : Bool) : Bl := ⟨h, t, y, slD c m h t y, slD_len c m h t y⟩
set_option maxRecDepth 100000 in
set_option maxHeartbeats 900000 in
theorem fn_ballot (c : Cn) (m : Pl) (h t : Int) (y : Bool) : Fn GH Tryd.prog 13 [.agg (cnC c), .agg (plC m), .int .i64 h, .int .i64 t, .bool y] (.agg (blC (balB c m h t y))) := by
  have hS := fn_Seal c m h t y
  have hl := slD_len c m h t y
  rw [bl_eq]
  unfold balB
  simp only
  unfold cnC plC at *
  refine Fn.mk (c := _) Tryd.func13 rfl rfl Tryd.ntmps13 Tryd.results13 ?_
  (simp -dsimp only [bodyW, List.length_cons, List.length_nil, Nat.zero_add, Nat.reduceAdd, Nat.reduceLeDiff, wfL, ↓z_seq, ↓z_region, ↓z_ops_plain, ↓z_box, ↓evW_tmp, ↓z_lk_env, ↓reduceIte, ↓z_cl_agg, ↓z_nmC_cons, ↓z_mn'_sl, ↓z_mn'_int, ↓z_nmC_nil, and_self, ↓z_new, ↓z_nm_nil, Nat.reduceLT, ↓z_pg_env, ↓z_mn_agg, ↓z_mn_int, ↓z_mn_bool, ↓z_pg_env0, ↓z_put, ↓lkW_cons, Nat.reduceEqDiff, reduceCtorEq, ↓z_nm_cons, ↓z_pg_cons, ↓z_mn_ptr, ↓z_pg_nil, ↓z_alloc, ↓y_zr41, ↓z_ops_nil, ↓z_seq_nrm, ↓z_load, ↓y_ty25, ↓y_sz25, ↓z_agTy_st, ↓loadW_ptr, ↓lkoW_cons, ↓z_rd_t, ↓z_sub_c, ↓z_sub_nil, ↓y_ty34, ↓y_sz34, ↓z_move, ↓z_callv, ↓evW_func, ↓z_evL_cons, ↓z_evL_nil, ↓z_fun0, ↓z_coeL_cons, ↓z_coe_oag, ↓z_coeC_cons, ↓z_coeS_sl, ↓z_coeS_int, ↓z_coeC_nil, ↓z_coe_int, ↓z_coe_bool, ↓z_coeL_nil, true_and])
  intro _ _ _ _ _
  refine call_fnL hS (by intro d hd; simp at hd; rcases hd with rfl | rfl; exact flS_bytes _; rfl) fun _ => ?_
  (simp -dsimp only [↓z_put, Nat.reduceLT, ↓z_ops_plain, ↓z_move, ↓evW_tmp, ↓lkW_cons, ↓reduceIte, ↓z_extract, ↓z_ex, ↓nthW_cons, Nat.reduceEqDiff, reduceCtorEq, Nat.reduceSub, ↓z_alloc, ↓y_zr39, ↓z_new, ↓z_nm_cons, ↓z_nmC_cons, ↓z_mn'_int, ↓z_mn'_bool, ↓z_nmC_nil, and_self, ↓z_mn'_sl, ↓z_nm_nil, Nat.zero_add, Nat.reduceAdd, ↓z_pg_cons, ↓z_mn_int, ↓z_mn_agg, ↓z_mn_tup, ↓z_mn_bool, ↓z_mn_oag, ↓z_mnL_int, ↓z_mnL_sl, ↓z_mnL_nil, ↓z_mn_ptr, ↓z_pg_nil, ↓z_store, ↓y_sz39, ↓z_cl_agg, List.length_map, ↓z_store_ptr, ↓lkoW_cons, List.length_cons, List.length_nil, Nat.reduceLeDiff, ↓spsW_cons, ↓drW_cons, ↓drW_nil, ↓z_cat_nil_r, ↓z_so_cons, ↓z_put_none, ↓z_assign, ↓z_ops_nil, ↓z_seq_nrm, ↓z_seq, ↓z_region, ↓z_load, ↓y_ty39, ↓z_agTy_arr, ↓loadW_ptr, ↓z_rd_t, ↓z_sub_map, ↓z_build, ↓y_ty41, ↓z_blTy_st, ↓y_zr41, ↓z_bld_cons, ↓y_fl41x0, ↓y_sz3, ↓z_cl_int, ↓catW_cons, ↓catW_nil, ↓y_fl41x1, ↓y_fl41x2, ↓y_sz4, ↓z_cl_bool, ↓y_fl41x3, ↓z_cl_oag, List.drop_zero, List.length_take, ↓z_bld_nil, ↓y_sz41, ↓z_ret, ↓z_end_rt, resLW, res1W, ↓z_agTy_st, ↓z_coeL_cons, ↓z_coeL_nil, ↓z_pack1, ↓z_sub_c, ↓z_coe_oag, ↓z_coeC_cons, ↓z_coeS_int, ↓z_coeS_bool, ↓z_coeC_bytes, D.agg.injEq, List.cons.injEq, true_and]); (try simp only [Int.toNat_natCast, Nat.mul_one, Bool.or_false, Bool.false_or, Bool.or_self, Bool.or_true])
  exact ⟨hl, by omega, by rfl, by omega, by omega, by omega, by rw [List.take_take, List.take_of_length_le (by omega)]⟩
set_option maxRecDepth 100000 in
theorem fn_example (G : Glob) : Fn G Tryd.prog 32 [] (.agg [.sl 1 3 [.int .i64 0, .int .i64 2, .int .i64 5], .sl 1 3 [.str [97], .str [98], .str [99]], .int .i64 2, .int .i64 100]) := by
  refine Fn.outW (d' := .agg [.slx 1 3 [.int .i64 0, .int .i64 2, .int .i64 5], .slx 1 3 [.str [97], .str [98], .str [99]], .int .i64 2, .int .i64 100]) ?_ (.agg (.cons (.slx ..) (.cons (.slx ..) (.cons (.refl _) (.cons (.refl _) .nil)))))
  refine Fn.mk (c := _) Tryd.func32 rfl rfl Tryd.ntmps32 Tryd.results32 ?_
  (simp -dsimp only [bodyW, List.length_nil, Nat.reduceLeDiff, wfL, ↓z_seq, ↓z_region, ↓z_ops_plain, ↓z_alloc, ↓y_zr25, ↓z_new, ↓z_nm_nil, Nat.reduceLT, ↓z_pg_env0, ↓z_put, ↓z_ops_nil, ↓z_seq_nrm, ↓z_buildSlice, ↓y_ty22, ↓z_slTy, ↓y_sz3, Nat.mul_one, maxLen_lit, ↓y_zr3, List.length_cons, Nat.zero_add, ↓z_repL_s, ↓z_repL_0, ↓z_cat_nil_r, ↓catW_cons, ↓catW_nil, ↓z_bld_cons, ↓evW_const, ↓constW_int, inR_i64, Int.reduceNeg, Int.reduceLE, and_self, ↓z_cl_int, Nat.reduceAdd, ↓spsW_cons, ↓reduceIte, ↓drW_cons, reduceCtorEq, Nat.reduceSub, ↓drW_nil, ↓z_bld_nil, ↓z_allP_cons, ↓z_isP_int, ↓z_allP_nil, ↓y_ty23, ↓y_sz9, ↓y_zr9, ↓constW_string, ↓z_cl_str, ↓z_isP_str, ↓z_build, ↓y_ty25, ↓z_blTy_st, ↓y_fl25x0, ↓y_sz22, ↓evW_tmp, ↓lkW_cons, Nat.reduceEqDiff, ↓z_cl_slx, ↓y_fl25x1, ↓y_sz23, ↓y_fl25x2, ↓y_fl25x3, ↓z_store, ↓y_sz25, ↓z_cl_oag, ↓z_store_ptr, ↓lkoW_cons, ↓z_so_cons, ↓z_put_none, ↓z_ret, ↓z_end_rt, resLW, res1W, ↓z_agTy_st, ↓z_coeL_cons, ↓z_coeL_nil, ↓z_pack1, ↓loadW_ptr, ↓z_rd_t, ↓z_sub_c, ↓z_sub_nil, ↓z_coe_oag, ↓z_coeC_cons, ↓z_coeS_slx, ↓z_coeS_int, ↓z_coeC_nil, and_true, true_and]); (try simp only [Int.toNat_natCast, Nat.mul_one, Bool.or_false, Bool.false_or, Bool.or_self, Bool.or_true])
  rfl
end Go.Abs

