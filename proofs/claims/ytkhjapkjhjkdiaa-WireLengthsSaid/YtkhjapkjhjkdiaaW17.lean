/-
  WIRE: the lengths of integers' encodings.
-/
import Derived.Test.YtkhjapkjhjkdiaaW13
namespace Go.Abs
open Go.Proofs

set_option maxRecDepth 100000 in
set_option maxHeartbeats 8000000 in
theorem law_5 (G : Glob) (m n : Int) : Fn G Try.prog 5 [.int .i64 m, .int .i64 n] (.bool true) := by
  refine Fn.mk (c := _) Try.func5 rfl rfl Try.ntmps5 Try.results5 ?_
  (simp -dsimp only [bodyW, List.length_cons, List.length_nil, Nat.zero_add, Nat.reduceAdd, Nat.reduceLeDiff, wfL, ↓z_seq, ↓z_region, ↓z_ops_plain, ↓z_assign, ↓evW_const, ↓constW_bool, ↓z_put, Nat.reduceLT, ↓z_ops_nil, ↓z_seq_nrm, ↓z_move, ↓evW_tmp, ↓lkW_cons, reduceCtorEq, ↓reduceIte, ↓z_lk_env, ↓z_callv, ↓evW_func, ↓z_evL_cons, ↓z_evL_nil, ↓z_fun0, ↓z_coeL_cons, ↓z_coe_int, ↓z_coeL_nil, true_and])
  intro h1 h2
  have hm : I64 m := h1.1
  have hn : I64 n := h2.1
  have lm := encI_len hm.1 hm.2
  have ln := encI_len hn.1 hn.2
  have pm := encI_pos m
  have pn := encI_pos n
  refine call_fn (fn_Int G m).fn fun _ => ?_
  (simp -dsimp only [↓z_put, Nat.reduceLT, ↓z_ops_plain, ↓z_move, ↓evW_tmp, ↓lkW_cons, Nat.reduceEqDiff, ↓reduceIte, ↓z_lk_env, reduceCtorEq, Nat.zero_add, ↓z_callv, ↓evW_func, ↓z_evL_cons, ↓z_evL_nil, ↓z_fun0, ↓z_coeL_cons, ↓z_coe_int, ↓z_coeL_nil, true_and])
  refine call_fn (fn_Int G n).fn fun _ => ?_
  (simp -dsimp only [↓z_put, Nat.reduceLT, ↓z_ops_plain, ↓z_assign, ↓evW_tmp, ↓lkW_cons, Nat.reduceEqDiff, ↓reduceIte, ↓z_ops_nil, ↓z_seq_nrm, ↓z_seq, ↓z_region, ↓z_move, reduceCtorEq, ↓z_lk_env, ↓z_binOp, ↓evW_const, ↓constW_int, Int.reduceNeg, inR_i64, Int.reduceLE, and_self, ↓z_bn_sub, ↓wrW_i64, ↓z_callb, ↓z_evL_cons, ↓z_evL_nil, ↓z_max, ↓z_mx_max, ↓z_mx_nil, Nat.zero_add, ↓z_bn_leq, ↓z_ops_guard, ↓z_grd, ↓z_dst_s, ↓z_dst_0, ↓z_grdD_b, ↓z_gdt, ↓z_gtt, ↓z_len, ↓y_ty28, ↓z_ln_sl, ↓z_bn_gtr, ↓z_pick, ↓z_pick_b, ↓z_gdf, ↓z_gnf, ↓z_gft, ↓z_grdD_u, ↓z_gnt, ↓z_gff, ↓constW_bool, ↓z_gtf, ↓z_cond, ↓z_cnd, ↓z_ret, ↓z_seq_rt, ↓z_end_rt, resLW, res1W, Bool.not_false, ↓z_coeL_cons, ↓z_coeL_nil, ↓z_pack1, ↓z_coe_bool, D.bool.injEq, true_and, ↓z_bn_eql, ↓z_bn_lss, ↓z_bn_bneq, ↓y_ty4, ↓z_boolTy, ne_eq, ↓z_skip, ↓z_min, ↓z_mx_min, ↓z_region_d, ↓y_mix, z_ite, Classical.not_not, Bool.not_true])
  have f1 : max m (-1 - m) ≤ max n (-1 - n) → ((encI m).length : Int) ≤ (encI n).length := fun h => by have := encI_mono h; omega
  have f2 : max n (-1 - n) ≤ max m (-1 - m) → ((encI n).length : Int) ≤ (encI m).length := fun h => by have := encI_mono h; omega
  have f3 : decide (((encI m).length : Int) = 1) = decide (max m (-1 - m) < 64) := by
    have := encI_one m
    rw [decide_eq_decide]; omega
  have hm1 := hm.1
  have hm2 := hm.2
  have hn1 := hn.1
  have hn2 := hn.2
  repeat' first | refine ⟨?_, ?_⟩ | intro _
  all_goals first | omega | contradiction | refine rgn_d (by decide +kernel) ?_
  all_goals
    (simp -dsimp only [↓z_drw_callv, ↓z_grd_none, ↓z_withE, ↓z_rd_func, ↓z_rd_nil]); (try simp only [Int.toNat_natCast, Nat.mul_one, Bool.or_false, Bool.false_or, Bool.or_self, Bool.or_true])
    refine ex_mk (.bool true) (fun E => ?_) ?_
    · (simp -dsimp only [↓z_ap_nil, ↓z_callv, ↓evW_func, ↓z_evL_nil, ↓z_fun0, ↓z_coeL_nil]); (try simp only [Int.toNat_natCast, Nat.mul_one, Bool.or_false, Bool.false_or, Bool.or_self, Bool.or_true])
      exact call_fn (fn_sanity G) fun _ => ⟨rfl, rfl⟩
    (simp -dsimp only [↓z_put, Nat.reduceLT, ↓z_drwK, ↓z_drw_move, ↓z_drwS, ↓z_grd_none, ↓z_withE, ↓z_rd_tmp, ↓lkW_cons, ↓reduceIte, ↓z_rd_nil, ↓z_ap_cons, ↓z_ap_nil, ↓z_move, ↓evW_tmp, and_true, ↓z_exD_all, ↓z_exD_eq, ↓z_grd, ↓z_dst_s, ↓z_dst_0, ↓z_grdD_b, ↓z_gtt, reduceCtorEq, ↓z_lk_env, ↓z_drw_binOp, Nat.reduceEqDiff, ↓z_rd_const, ↓z_binOp, ↓evW_const, ↓constW_int, Int.reduceNeg, inR_i64, Int.reduceLE, and_self, ↓z_bn_sub, ↓wrW_i64, true_and, ↓z_exD_and, ↓z_drw_callv, ↓z_rd_func]); (try simp only [Int.toNat_natCast, Nat.mul_one, Bool.or_false, Bool.false_or, Bool.or_self, Bool.or_true])
    refine ⟨by omega, ex_mk (.sl 1 (encI (-1 - m)).length ((encI (-1 - m)).map bD)) (fun E => ?_) ?_⟩
    · (simp -dsimp only [↓z_ap_cons, ↓z_ap_nil, ↓z_callv, ↓evW_func, ↓z_evL_cons, ↓evW_tmp, ↓lkW_cons, ↓reduceIte, ↓z_evL_nil, ↓z_fun0, ↓z_coeL_cons, ↓z_coe_int, ↓z_coeL_nil]); (try simp only [Int.toNat_natCast, Nat.mul_one, Bool.or_false, Bool.false_or, Bool.or_self, Bool.or_true])
      exact call_fn (fn_Int G _).fn fun _ => ⟨rfl, rfl⟩
    (simp -dsimp only [↓z_put, Nat.reduceLT, ↓z_drwK, ↓z_drw_callb_len, ↓z_drwS, ↓z_grd, ↓z_dst_s, ↓z_dst_0, ↓lkW_cons, Nat.reduceEqDiff, ↓reduceIte, ↓z_grdD_b, ↓z_gtt, ↓z_withE, ↓z_rd_tmp, ↓z_rd_nil, ↓z_ap_cons, ↓z_ap_nil, ↓z_callb, ↓z_evL_cons, ↓evW_tmp, ↓z_evL_nil, ↓z_len, ↓y_ty28, ↓z_ln_sl, Int.reduceNeg, and_true, ↓z_exD_all, ↓z_exD_eq, ↓z_drw_move, ↓z_move, ↓z_drw_binOp, ↓z_binOp, ↓z_bn_eql, ↓z_drw_pick, ↓z_grd_none, ↓z_rd_const, ↓z_pick, ↓z_pick_b, ↓z_gdt, ↓z_drw_slice, ↓z_oLn, ↓z_oL, List.nil_append, List.append_nil, ne_eq, ↓z_slice, ↓z_evO_none, ↓z_bo_none, ↓z_evO_some, ↓z_seTy_sl, ↓y_sz5, ↓z_bo_some, ↓z_slc_sl_nh, ↓z_sub_map, Nat.mul_one, true_and, ↓z_exD_and, ↓z_drw_convert, ↓z_convert, ↓y_ty9, ↓z_cvt_bs, ↓y_ty5, ↓z_u8, ↓z_cv_bs_sl, ↓bsW_map, ↓z_bn_seql, reduceCtorEq, ↓z_lk_env, Nat.zero_add, ↓z_bn_beql, ↓y_ty4, ↓z_boolTy, ↓z_drw_assign, ↓z_assign, ↓z_drw_nil, ↓z_seq_nrm, ↓z_ret, ↓z_end_rt, resLW, res1W, ↓z_coeL_cons, ↓z_coeL_nil, ↓z_pack1, ↓z_coe_bool, D.bool.injEq, decide_eq_true_eq, ↓z_gnt, ↓z_gtf, ↓evW_const, ↓constW_bool, Bool.not_true, z_ite]); (try simp only [Int.toNat_natCast, Nat.mul_one, Bool.or_false, Bool.false_or, Bool.or_self, Bool.or_true])
  all_goals
    have e1 := encI_neg m
    have e2 : (min ((encI m).length : Int) (encI n).length).toNat = min (encI m).length (encI n).length := by omega
    refine ⟨fun _ => ⟨by omega, by omega, by omega, by omega, ?_⟩, fun h => h (by rw [e1])⟩
    rw [decide_eq_decide, e2, List.drop_zero, List.drop_zero]
    exact encI_prefix hm hn rfl
#print axioms law_5
end Go.Abs

