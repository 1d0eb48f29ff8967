/-
  EXTEND, ninth walks: the reference's frame of a plea of a wrong council; comparing pleas; small councils.
-/
import Derived.Test.YtaakjjhifhjbfaaDoorE8
import Derived.Test.YtaakjjhifhjbfaaDoorAbs33
namespace Go.Abs
open Go.Proofs
def frmW (c : Cn) (m : Pl) : Prop := 0 ≤ m.o ∧ m.o ≤ 1099511627776 ∧ 0 ≤ m.n ∧ m.n ≤ m.l ∧ m.l < m.u ∧ m.u ≤ 1000000 ∧ m.u ≤ IntKind.i64.wrap (m.l + c.bd)
instance (c : Cn) (m : Pl) : Decidable (frmW c m) := by unfold frmW; infer_instance
set_option maxRecDepth 100000 in
set_option maxHeartbeats 900000 in
theorem fn_refframedW (G : Glob) (c : Cn) (m : Pl) : Fn G Tryd.prog 46 [.agg (cnC c), .agg (plC m)] (.bool (decide (frmW c m))) := by
  unfold cnC plC
  refine Fn.mkS (c := _) Tryd.func46 rfl rfl Tryd.ntmps46 Tryd.results46 (Snd.seq (Snd.of _) (Snd.seq (Snd.of _) (Snd.seq (Snd.add 6 rfl) (Snd.of _)))) ?_
  rw [s_body]
  (simp -dsimp only [List.length_cons, List.length_nil, Nat.zero_add, Nat.reduceAdd, Nat.reduceLeDiff, wfL, ↓z_region, ↓z_ops_plain, ↓z_box, ↓evW_tmp, ↓z_lk_env, ↓reduceIte, ↓z_cl_agg, ↓z_nmC_cons, ↓z_mn'_sl, ↓z_mn'_int, ↓z_nmC_nil, and_self, ↓z_new, ↓z_nm_nil, Nat.reduceLT, ↓z_pg_env, ↓z_mn_agg, ↓z_pg_env0, ↓z_put, ↓lkW_cons, Nat.reduceEqDiff, reduceCtorEq, ↓z_nm_cons, ↓z_pg_cons, ↓z_mn_ptr, ↓z_pg_nil, ↓z_assign, ↓evW_const, ↓constW_bool, ↓z_ops_nil, ↓z_seq_nrm, ↓z_seq, ↓z_fieldAddr, ↓y_fl34x0, ↓y_sz3, ne_eq, not_false_eq_true, ↓z_fa_ptr, ↓z_load, ↓y_ty3, ↓z_agTy_int, ↓loadW_ptr, ↓lkoW_cons, ↓z_rd_f, ↓nthW_cons, ↓z_binOp, ↓constW_int, inR_i64, Int.reduceNeg, Int.reduceLE, ↓z_bn_lss, ↓z_move, ↓z_ops_guard, ↓z_grd, ↓z_dst_s, ↓z_dst_0, ↓z_grdD_b, ↓z_gdf, ↓z_gnf, ↓z_gft, ↓z_pick, ↓z_pick_b, ↓z_gnt, ↓z_gff, ↓z_gtf, ↓z_cond, ↓z_cnd, ↓z_gtt, ↓z_ret, ↓z_seq_rt, ↓z_end_rt, resLW, res1W, Bool.not_false, ↓z_coeL_cons, ↓z_coeL_nil, ↓z_pack1, ↓z_coe_bool, D.bool.injEq, true_and, ↓z_bn_gtr, ↓y_fl34x3, Nat.reduceSub, ↓y_fl34x1, ↓y_fl34x2, ↓z_bn_leq, ↓z_gdt, ↓z_skip, List.take_succ_cons, List.take_zero, ↓y_fl25x3, addX_int, z_ite]); (try simp only [Int.toNat_natCast, Nat.mul_one, Bool.or_false, Bool.false_or, Bool.or_self, Bool.or_true])
  intro _ _
  repeat' (first | apply And.intro | intro _)
  all_goals first | exact decide_eq_decide.2 (by unfold frmW; omega) | exact (decide_eq_false (by unfold frmW; omega)).symm
set_option maxRecDepth 100000 in
set_option maxHeartbeats 900000 in
theorem fn_refRightN (c : Cn) (m : Pl) (hc : ¬ okC c) : Fn GK Tryd.prog 26 [.agg (cnC c), .agg (plC m)] (.bool false) := by
  have hC := fn_refCheck GK c
  have hF := fn_refframedW GK c m
  rw [chkC_no hc] at hC
  unfold cnC plC at *
  refine Fn.mk (c := _) Tryd.func26 rfl rfl Tryd.ntmps26 Tryd.results26 ?_
  (simp -dsimp only [bodyW, List.length_cons, List.length_nil, Nat.zero_add, Nat.reduceAdd, Nat.reduceLeDiff, wfL, ↓z_seq, ↓z_region, ↓z_ops_plain, ↓z_box, ↓evW_tmp, ↓z_lk_env, ↓reduceIte, ↓z_cl_agg, ↓z_nmC_cons, ↓z_mn'_sl, ↓z_mn'_int, ↓z_nmC_nil, and_self, ↓z_new, ↓z_nm_nil, Nat.reduceLT, ↓z_pg_env, ↓z_mn_agg, ↓z_pg_env0, ↓z_put, ↓lkW_cons, Nat.reduceEqDiff, reduceCtorEq, ↓z_nm_cons, ↓z_pg_cons, ↓z_mn_ptr, ↓z_pg_nil, ↓z_assign, ↓evW_const, ↓constW_bool, ↓z_ops_nil, ↓z_seq_nrm, ↓z_load, ↓y_ty25, ↓y_sz25, ↓z_agTy_st, ↓loadW_ptr, ↓lkoW_cons, ↓z_rd_t, ↓z_sub_c, ↓z_sub_nil, ↓z_callv, ↓evW_func, ↓z_evL_cons, ↓z_evL_nil, ↓z_fun0, ↓z_coeL_cons, ↓z_coe_oag, ↓z_coeC_cons, ↓z_coeS_sl, ↓z_coeS_int, ↓z_coeC_nil, ↓z_coeL_nil, true_and])
  intro _ _
  refine call_fnL hC rfl fun _ => ?_
  (simp -dsimp only [↓z_put, Nat.reduceLT, ↓z_ops_plain, ↓z_assign, ↓evW_tmp, ↓lkW_cons, ↓reduceIte, ↓z_ops_nil, ↓z_seq_nrm, ↓z_seq, ↓z_region, ↓z_load, Nat.reduceEqDiff, ↓y_ty25, ↓y_sz25, ↓z_agTy_st, ↓loadW_ptr, ↓lkoW_cons, Nat.zero_add, reduceCtorEq, ↓z_rd_t, List.length_cons, List.length_nil, Nat.reduceAdd, Nat.reduceLeDiff, ↓z_sub_c, ↓z_sub_nil, ↓y_ty34, ↓y_sz34, ↓z_callv, ↓evW_func, ↓z_evL_cons, ↓z_evL_nil, ↓z_fun0, ↓z_coeL_cons, ↓z_coe_oag, ↓z_coeC_cons, ↓z_coeS_sl, ↓z_coeS_int, ↓z_coeC_nil, ↓z_coeL_nil, true_and])
  refine call_fnL hF rfl fun _ => ?_
  (simp -dsimp only [↓z_put, Nat.reduceLT, ↓z_ops_plain, ↓z_assign, ↓evW_tmp, ↓lkW_cons, ↓reduceIte, ↓z_ops_nil, ↓z_seq_nrm, ↓z_seq, ↓z_region, ↓z_move, Nat.reduceEqDiff, ↓z_binOp, ↓evW_const, ↓constW_int, inR_i64, Int.reduceNeg, Int.reduceLE, and_self, ↓z_bn_neq, ↓z_ops_guard, ↓z_grd, ↓z_dst_s, ↓z_dst_0, ↓z_grdD_b, ↓z_gdf, ne_eq, Int.reduceEq, not_false_eq_true, ↓z_gnf, ↓z_gft, ↓z_pick, ↓z_pick_b, ↓z_gnt, ↓z_gff, ↓constW_bool, ↓z_cond, ↓z_cnd, ↓z_gtt, ↓z_ret, ↓z_seq_rt, ↓z_end_rt, resLW, res1W, Bool.not_false, Nat.zero_add, ↓z_coeL_cons, Nat.reduceAdd, ↓z_coeL_nil, ↓z_pack1, ↓z_coe_bool]); (try simp only [Int.toNat_natCast, Nat.mul_one, Bool.or_false, Bool.false_or, Bool.or_self, Bool.or_true])
theorem fn_refRightA (c : Cn) (m : Pl) (hv : m.v.length ≤ 1000) : Fn GK Tryd.prog 26 [.agg (cnC c), .agg (plC m)] (.bool (decide (rgtP c m))) := by
  by_cases hc : okC c
  · exact fn_refRight c m hc hv
  · exact (fn_refRightN c m hc).out (by rw [decide_eq_false]; exact fun h => hc h.1)
end Go.Abs

