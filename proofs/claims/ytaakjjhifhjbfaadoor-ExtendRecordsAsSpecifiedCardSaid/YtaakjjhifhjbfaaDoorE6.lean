/-
  EXTEND, fifth walks: the reference's seal and errors of a vote.
-/
import Derived.Test.YtaakjjhifhjbfaaDoorE5
namespace Go.Abs
open Go.Proofs
set_option maxRecDepth 100000 in
set_option maxHeartbeats 8000000 in
theorem fn_refSeal (c : Cn) (m : Pl) (h t : Int) (y : Bool) : Fn GK Tryd.prog 21 [.agg (cnC c), .agg (plC m), .int .i64 h, .int .i64 t, .bool y] (.agg ((slD c m h t y).map bD ++ [.int .i64 (slE c h)])) := by
  have hC := fn_refCheck GK c
  have hI := fn_Seat GK c h
  have hD := sealD_len c m h t y
  unfold cnC plC at *
  refine Fn.mk (c := _) Tryd.func21 rfl rfl Tryd.ntmps21 Tryd.results21 ?_
  (simp -dsimp only [bodyW, List.length_cons, List.length_nil, Nat.zero_add, Nat.reduceAdd, Nat.reduceLeDiff, wfL, ↓z_seq, ↓z_region, ↓z_ops_plain, ↓z_box, ↓evW_tmp, ↓z_lk_env, ↓reduceIte, ↓z_cl_agg, ↓z_nmC_cons, ↓z_mn'_sl, ↓z_mn'_int, ↓z_nmC_nil, and_self, ↓z_new, ↓z_nm_nil, Nat.reduceLT, ↓z_pg_env, ↓z_mn_agg, ↓z_mn_int, ↓z_mn_bool, ↓z_pg_env0, ↓z_put, ↓lkW_cons, Nat.reduceEqDiff, reduceCtorEq, ↓z_nm_cons, ↓z_pg_cons, ↓z_mn_ptr, ↓z_pg_nil, ↓z_alloc, ↓y_zr64, ↓z_ops_nil, ↓z_seq_nrm, ↓z_load, ↓y_ty25, ↓y_sz25, ↓z_agTy_st, ↓loadW_ptr, ↓lkoW_cons, ↓z_rd_t, ↓z_sub_c, ↓z_sub_nil, ↓z_callv, ↓evW_func, ↓z_evL_cons, ↓z_evL_nil, ↓z_fun0, ↓z_coeL_cons, ↓z_coe_oag, ↓z_coeC_cons, ↓z_coeS_sl, ↓z_coeS_int, ↓z_coeC_nil, ↓z_coeL_nil, true_and])
  intro hk hm h1 h2 _
  refine call_fnL hC rfl fun _ => ?_
  (simp -dsimp only [↓z_put, Nat.reduceLT, ↓z_ops_plain, ↓z_assign, ↓evW_tmp, ↓lkW_cons, ↓reduceIte, ↓z_ops_nil, ↓z_seq_nrm, ↓z_seq, ↓z_region, ↓z_move, ↓z_binOp, ↓evW_const, ↓constW_int, inR_i64, Int.reduceNeg, Int.reduceLE, and_self, ↓z_bn_neq, ↓z_cond, ↓z_cnd, ↓z_gdt, ne_eq, Nat.reduceEqDiff, ↓z_build, ↓y_ty64, ↓z_blTy_st, ↓y_zr64, ↓z_bld_cons, ↓y_fl64x1, ↓y_sz30, ↓z_cl_int, List.length_cons, List.length_nil, Nat.zero_add, Nat.reduceAdd, Nat.reduceLeDiff, ↓spsW_cons, reduceCtorEq, Nat.reduceSub, ↓drW_cons, ↓drW_nil, ↓z_cat_nil_r, ↓z_bld_nil, ↓z_store, ↓y_sz64, ↓z_cl_oag, ↓z_store_ptr, ↓lkoW_cons, ↓z_so_cons, ↓z_put_none, ↓z_ret, ↓z_seq_rt, ↓z_end_rt, resLW, res1W, ↓z_agTy_st, ↓z_coeL_cons, ↓z_coeL_nil, ↓z_pack1, ↓loadW_ptr, ↓z_rd_t, ↓z_sub_c, ↓z_sub_nil, ↓z_coe_oag, ↓z_coeC_cons, ↓z_coeS_int, ↓z_coeC_nil, D.agg.injEq, true_and, ↓z_skip, ↓z_load, ↓y_ty25, ↓y_sz25, ↓z_callv, ↓evW_func, ↓z_evL_cons, ↓z_evL_nil, ↓z_fun0, ↓z_coeS_sl, ↓z_coe_int, z_ite, Classical.not_not])
  refine ⟨fun c0 => ?_, fun c0 => ?_⟩
  · have hn : ¬ okC c := fun g => c0 (chkC_0.2 g)
    have e1 : slE c h = 1 := if_neg hn
    rw [chkC_no hn]
    unfold slD
    rw [e1]
    exact ⟨by rfl, rfl⟩
  have hc : okC c := chkC_0.1 c0
  have e0 : slE c h = if seatI c.hs h < 0 then 19 else 0 := if_pos hc
  refine call_fnL hI rfl fun _ => ?_
  (simp -dsimp only [↓z_put, Nat.reduceLT, ↓z_ops_plain, ↓z_assign, ↓evW_tmp, ↓lkW_cons, ↓reduceIte, ↓z_ops_nil, ↓z_seq_nrm, ↓z_seq, ↓z_region, ↓z_move, ↓z_binOp, ↓evW_const, ↓constW_int, inR_i64, Int.reduceNeg, Int.reduceLE, and_self, ↓z_bn_lss, ↓z_cond, ↓z_cnd, ↓z_gdt, ↓z_build, ↓y_ty64, ↓z_blTy_st, ↓y_zr64, ↓z_bld_cons, ↓y_fl64x1, ↓y_sz30, ↓z_cl_int, List.length_cons, List.length_nil, Nat.zero_add, Nat.reduceAdd, Nat.reduceLeDiff, ↓spsW_cons, reduceCtorEq, Nat.reduceSub, ↓drW_cons, ↓drW_nil, ↓z_cat_nil_r, ↓z_bld_nil, ↓z_store, Nat.reduceEqDiff, ↓y_sz64, ↓z_cl_oag, ↓z_store_ptr, ↓lkoW_cons, ↓z_so_cons, ↓z_put_none, ↓z_ret, ↓z_seq_rt, ↓z_end_rt, resLW, res1W, ne_eq, ↓z_agTy_st, ↓z_coeL_cons, ↓z_coeL_nil, ↓z_pack1, ↓loadW_ptr, ↓z_rd_t, ↓z_sub_c, ↓z_sub_nil, ↓z_coe_oag, ↓z_coeC_cons, ↓z_coeS_int, ↓z_coeC_nil, D.agg.injEq, true_and, ↓z_skip, ↓z_region_d, ↓y_mix, z_ite])
  refine ⟨fun c1 => ?_, fun c1 => ?_⟩
  · have e1 : slE c h = 19 := by rw [e0, if_pos c1]
    unfold slD
    rw [e1]
    exact ⟨by rfl, rfl⟩
  have e1 : slE c h = 0 := by rw [e0, if_neg c1]
  have e2 : slD c m h t y = sealD c m h t y := if_pos e1
  rw [e1, e2]
  have hS := fIdx_lt (fun x => decide (x = h)) c.hs
  obtain ⟨k, hk'⟩ : ∃ k : Nat, seatI c.hs h = (k : Int) := ⟨(seatI c.hs h).toNat, by omega⟩
  have hkl : k < c.hs.length := by rw [show fIdx (fun x => decide (x = h)) c.hs = (k : Int) from hk'] at hS; omega
  have hk2 : k < c.ss.length := by rw [okC_len hc]; exact hkl
  have eD : sealD c m h t y = macD c.ss[k] (txt [150, m.o, m.l, m.u, m.n, h, t, flg y]) := by
    unfold sealD; rw [hk', Int.toNat_natCast, getD_at hk2]
  have hsl : c.ss[k].length ≤ 64 := by have := okC_ss hc hkl; rw [getD_at hk2] at this; exact this
  rw [eD, hk']
  have hr : ∀ x ∈ [150, m.o, m.l, m.u, m.n, h, t, flg y], -9223372036854775808 ≤ x ∧ x ≤ 9223372036854775807 := by
    intro x hx
    have m1 := hm.2 (.int .i64 m.o) (by simp)
    have m2 := hm.2 (.int .i64 m.l) (by simp)
    have m3 := hm.2 (.int .i64 m.u) (by simp)
    have m4 := hm.2 (.int .i64 m.n) (by simp)
    have m7 := flg_le y
    simp only [List.mem_cons, List.not_mem_nil, or_false] at hx
    rcases hx with rfl | rfl | rfl | rfl | rfl | rfl | rfl | rfl
    · omega
    · exact m1.1
    · exact m2.1
    · exact m3.1
    · exact m4.1
    · exact h1.1
    · exact h2.1
    · omega
  obtain ⟨p1, p2⟩ := txt_parts hr (by simp)
  have l16 := macD_len c.ss[k] (txt [150, m.o, m.l, m.u, m.n, h, t, flg y])
  refine rgn_x 19 [] (by decide +kernel) ?_
  (simp -dsimp only [↓z_nmRE_cons, ↓z_nmR_bool, ↓z_nmR_int, ↓z_nmR_oag, ↓z_nmRS_sl, ↓z_nmRS_int, ↓z_nmRS_nil, ↓z_nmR_ptr, Nat.zero_add, Nat.reduceAdd, Nat.reduceLT, Nat.reduceLeDiff, or_false, ↓z_nmR_agg, ↓z_nmRE_nil, and_self, ↓z_nmRO_cons, ↓z_nmRL_cons, ↓z_nmRL_nil, ↓z_nmR_sl, ↓z_nmRO_nil, ↓z_splitO_cons, List.not_mem_nil, ↓reduceIte, ↓z_splitO_nil, List.take_succ_cons, List.take_zero, ne_eq, List.drop_succ_cons, List.drop_zero, ↓z_ret, ↓z_end_rt, resLW, res1W, ↓y_ty64, ↓y_sz64, ↓z_agTy_st, ↓z_coeL_cons, ↓z_coeL_nil, ↓z_pack1, ↓z_ops_plain, ↓z_callv, ↓evW_func, ↓z_evL_cons, ↓evW_tmp, ↓z_evL_nil, ↓z_fun0, ↓z_drx_fieldAddr, ↓z_drxS, ↓z_grd_none, ↓z_withE, ↓z_rd_tmp, ↓lkW_cons, Nat.reduceEqDiff, ↓z_rd_nil, ↓z_ap_cons, ↓z_ap_nil, ↓z_apO_cons, ↓z_apO_nil, ↓z_or_fieldAddr, ↓z_fieldAddr, ↓y_fl25x1, ↓y_sz23, reduceCtorEq, not_false_eq_true, ↓z_fa_ptr, and_true, true_and, ↓z_exD_all, ↓z_exD_all2, ↓z_exD_eq, ↓z_put, ↓z_drxK, ↓z_drx_load, ↓z_or_load, ↓z_load, ↓y_ty23, ↓z_agTy_sl, ↓loadW_ptr, ↓lkoW_cons, ↓z_rd_f, ↓nthW_cons, Nat.reduceSub, ↓z_drx_move, ↓z_or_move, ↓z_move, ↓z_drx_indexAddr, ↓z_or_indexAddr, ↓z_indexAddr, ↓z_elTy_sl, ↓y_sz9, ↓z_ix_sl, Nat.mul_one, ↓z_exD_and, ↓z_nmR_rop, ↓y_ty9, ↓z_agTy_str, ↓loadW_rop, ↓z_nth_str, ↓z_exD_ex, ↓z_nmR_str, ↓y_fl34x0, ↓y_sz3, ↓y_ty3, ↓z_agTy_int, ↓y_fl34x1, ↓y_fl34x2, ↓y_fl34x3, ↓z_drx_callv]); (try simp only [Int.toNat_natCast])
  refine ⟨by omega, by omega, hk2, ?_⟩
  refine cv_ex ?_
  (simp -dsimp only [↓z_drxA_callv, ↓z_grd_none, ↓z_withE, ↓z_rd_func, ↓z_rd_tmp, ↓lkW_cons, ↓reduceIte, ↓z_rd_nil]); (try simp only [Int.toNat_natCast, Nat.mul_one, Bool.or_false, Bool.false_or, Bool.or_self, Bool.or_true])
  refine ex_mk (.int .i64 (flg y)) (fun E X => by (simp -dsimp only [↓z_ap_cons, ↓z_ap_nil, ↓z_apO_cons, ↓z_apO_nil, ↓z_callv, ↓evW_func, ↓z_evL_cons, ↓evW_tmp, ↓lkW_cons, ↓reduceIte, ↓z_evL_nil, ↓z_fun0, ↓z_coeL_cons, ↓z_coe_bool, ↓z_coeL_nil]); (try simp only [Int.toNat_natCast, Nat.mul_one, Bool.or_false, Bool.false_or, Bool.or_self, Bool.or_true]); exact call_fn (fn_refflag GK y) fun _ => ⟨rfl, rfl⟩) ?_
  (simp -dsimp only [↓z_nmR_int, ↓z_put, Nat.reduceLT, ↓z_drxK, ↓z_drx_buildSlice, ↓z_drxS, ↓z_grd_none, ↓z_withE, ↓z_mpO_cons, ↓z_rd_const, ↓z_rd_nil, ↓z_rd_tmp, ↓lkW_cons, Nat.reduceEqDiff, ↓reduceIte, ↓z_mpO_nil, ↓z_ap_app, ↓z_ap_nil, ↓z_ap_cons, ↓z_apO_cons, ↓z_apO_nil, ↓z_or_buildSlice, ↓z_buildSlice, ↓y_ty22, ↓z_slTy, ↓y_sz3, Nat.mul_one, Nat.reduceLeDiff, maxLen_lit, ↓y_zr3, List.length_cons, List.length_nil, Nat.zero_add, ↓z_repL_s, ↓z_repL_0, ↓z_cat_nil_r, ↓catW_cons, ↓catW_nil, ↓z_bld_cons, ↓evW_const, ↓constW_int, inR_i64, Int.reduceNeg, Int.reduceLE, and_self, ↓z_cl_int, Nat.reduceAdd, ↓spsW_cons, ↓drW_cons, reduceCtorEq, Nat.reduceSub, ↓evW_tmp, ↓drW_nil, ↓z_bld_nil, ↓z_allP_cons, ↓z_isP_int, ↓z_allP_nil, and_true, true_and, ↓z_exD_all, ↓z_exD_all2, ↓z_exD_eq, ↓z_nmR_slx, ↓z_drx_callv]); (try simp only [Int.toNat_natCast, Nat.mul_one, Bool.or_false, Bool.false_or, Bool.or_self, Bool.or_true])
  refine cv_new (.osl 3 1 8) ((txt [150, m.o, m.l, m.u, m.n, h, t, flg y]).map D.str) (fun i _ _ h3 => by simp [mn]; omega) ?_
  (simp -dsimp only [Nat.reduceLT, ↓z_rd_func, ↓z_rd_tmp, ↓lkW_cons, ↓reduceIte, ↓z_rd_nil, ↓z_nmRL_str, ↓z_ap_cons, ↓z_ap_nil, ↓z_apO_cons, ↓z_apO_nil, ↓z_callv, ↓evW_func, ↓z_evL_cons, ↓evW_tmp, ↓z_evL_nil, ↓z_fun0, ↓z_coeL_cons, ↓z_coe_slx, ↓z_coeL_nil, ↓z_drx_nil, Nat.reduceEqDiff, ↓z_coe_str, ↓z_coe_osl, ↓lkoW_cons, ↓z_allP_str, List.length_map, Nat.mul_one, true_and]); (try simp only [Int.toNat_natCast, Nat.mul_one, Bool.or_false, Bool.false_or, Bool.or_self, Bool.or_true])
  refine ⟨fun E X hX => ?_, ?_⟩
  · refine call_own ((fn_reftexts GK [150, m.o, m.l, m.u, m.n, h, t, flg y] (by simp)).weak (.cons (.slx ..) .nil)) fun _ => ?_
    (simp -dsimp only [↓z_new, ↓z_nm_cons, ↓z_nmC_cons, ↓z_mn'_int, ↓z_nmC_nil, and_self, ↓z_mn'_sl, ↓z_pg_cons, ↓z_mn_slx, D.osl.injEq, true_and, Nat.reduceAdd, hX]); (try simp only [Int.toNat_natCast, Nat.mul_one, Bool.or_false, Bool.false_or, Bool.or_self, Bool.or_true])
    simp [pgW, purge, mn, txt]
  refine ⟨rfl, ?_⟩
  refine call_fnL ((fn_rMac c.ss[k] (txt [150, m.o, m.l, m.u, m.n, h, t, flg y]) (by omega) (fun x hx => by have := p1 x hx; omega) (by simp at p2 ⊢; omega)).inp rfl) (flS_bytes _) fun _ => ?_
  (simp -dsimp only [↓z_put, Nat.reduceLT, ↓z_ops_plain, ↓z_build, ↓y_ty64, ↓z_blTy_st, ↓y_zr64, ↓z_bld_cons, ↓y_fl64x0, ↓y_sz39, ↓evW_tmp, ↓lkW_cons, ↓reduceIte, ↓z_cl_agg, List.length_map, Nat.zero_add, List.length_cons, List.length_nil, Nat.reduceAdd, Nat.reduceLeDiff, ↓spsW_cons, ↓drW_cons, reduceCtorEq, Nat.reduceSub, ↓catW_map, ↓z_bld_nil, ↓z_store, Nat.reduceEqDiff, ↓y_sz64, ↓z_cl_oag, List.length_append, ↓z_store_ptr, ↓lkoW_cons, ↓drW_nil, ↓z_cat_nil_r, ↓z_so_cons, ↓z_put_none, ↓z_ops_nil, ↓z_seq_nrm, ↓loadW_ptr, ↓z_rd_t, ↓z_coe_oag, D.agg.injEq, z_sub, List.drop_zero, true_and]); (try simp only [Int.toNat_natCast, Nat.mul_one, Bool.or_false, Bool.false_or, Bool.or_self, Bool.or_true])
  refine ⟨by rfl, l16, l16, by omega, ?_⟩
  rw [coe_fl _ (fun c hc => by
      rcases List.mem_append.1 (List.mem_of_mem_take hc) with h | h
      · obtain ⟨_, _, rfl⟩ := List.mem_map.1 h; rfl
      · simp at h; subst h; rfl)]
  exact List.take_of_length_le (by simp [l16])
set_option maxRecDepth 100000 in
set_option maxHeartbeats 8000000 in
theorem fn_wrong (c : Cn) (m : Pl) (v : Bl) (hc : okC c) (hv : m.v.length ≤ 1000) : Fn GK Tryd.prog 45 [.agg (cnC c), .agg (plC m), .agg (blC v)] (.int .i64 (voE c m v)) := by
  have hI := fn_Seat GK c v.h
  have hS := fn_refSeal c m v.h v.t v.y
  have h5 := vo_5 c m v
  have hv16 := v.hs
  unfold cnC plC at *
  rw [bl_eq]
  refine Fn.mk (c := _) Tryd.func45 rfl rfl Tryd.ntmps45 Tryd.results45 ?_
  (simp -dsimp only [bodyW, List.length_cons, List.length_nil, Nat.zero_add, Nat.reduceAdd, Nat.reduceLeDiff, wfL, ↓z_seq, ↓z_region, ↓z_ops_plain, ↓z_box, ↓evW_tmp, ↓z_lk_env, ↓reduceIte, ↓z_cl_agg, ↓z_nmC_cons, ↓z_mn'_sl, ↓z_mn'_int, ↓z_nmC_nil, and_self, ↓z_new, ↓z_nm_nil, Nat.reduceLT, ↓z_pg_env, ↓z_mn_agg, ↓z_pg_env0, ↓z_put, ↓lkW_cons, Nat.reduceEqDiff, reduceCtorEq, ↓z_nm_cons, ↓z_pg_cons, ↓z_mn_ptr, ↓z_pg_nil, ↓z_mn'_bool, ↓z_nmC_bytes, ↓z_assign, ↓evW_const, ↓constW_int, inR_i64, Int.reduceNeg, Int.reduceLE, ↓z_ops_nil, ↓z_seq_nrm, ↓z_load, ↓y_ty25, ↓y_sz25, ↓z_agTy_st, ↓loadW_ptr, ↓lkoW_cons, ↓z_rd_t, ↓z_sub_c, ↓z_sub_nil, ↓z_fieldAddr, ↓y_fl41x0, ↓y_sz3, ne_eq, not_false_eq_true, ↓z_fa_ptr, ↓y_ty3, ↓z_agTy_int, ↓z_rd_f, ↓nthW_cons, ↓z_callv, ↓evW_func, ↓z_evL_cons, ↓z_evL_nil, ↓z_fun0, ↓z_coeL_cons, ↓z_coe_oag, ↓z_coeC_cons, ↓z_coeS_sl, ↓z_coeS_int, ↓z_coeC_nil, ↓z_coe_int, ↓z_coeL_nil, true_and])
  intro _ _ _
  refine call_fnL hI rfl fun _ => ?_
  (simp -dsimp only [↓z_put, Nat.reduceLT, ↓z_ops_plain, ↓z_binOp, ↓evW_tmp, ↓lkW_cons, ↓reduceIte, ↓evW_const, ↓constW_int, inR_i64, Int.reduceNeg, Int.reduceLE, and_self, ↓z_bn_lss, ↓z_ops_nil, ↓z_seq_nrm, ↓z_cond, ↓z_cnd, ↓z_gdt, ↓z_seq, ↓z_region, ↓z_assign, ↓z_ret, ↓z_seq_rt, ↓z_end_rt, resLW, res1W, Nat.zero_add, Nat.reduceAdd, ↓z_coeL_cons, ↓z_coeL_nil, ↓z_pack1, ↓z_coe_int, D.int.injEq, true_and, ↓z_skip, ↓z_block, ↓z_loop, z_ite])
  refine ⟨fun s0 => by rcases h5 with ⟨a, b⟩ | ⟨a, b⟩ | ⟨a, b⟩ <;> omega, fun s0 => ?_⟩
  refine hold_intro ⟨[], Nat, fun i => ⟨74, 3, [(7, .int .i64 i), (3, .ptr 0 0), (4, .ptr 1 0), (5, .ptr 2 0)],
    [(2, .int .i64 v.h :: .int .i64 v.t :: .bool v.y :: v.s.map bD), (1, [.int .i64 m.o, .int .i64 m.l, .int .i64 m.u, .int .i64 m.n, .sl 19 m.v.length (List.flatMap blC m.v)]), (0, [.sl 1 c.hs.length (c.hs.map (D.int .i64)), .sl 1 c.ss.length (c.ss.map D.str), .int .i64 c.nd, .int .i64 c.bd])]⟩,
    fun i => i ≤ m.v.length ∧ ∀ (j : Nat) (hj : j < i) (hx : j < m.v.length), decide (m.v[j].h = v.h) = false, fun i => m.v.length - i, ?_, ?_⟩
  · (simp -dsimp only [↓z_ad_nil, ↓z_wk, ↓z_wkE_cons, ↓lkW_cons, ↓reduceIte, D.int.injEq, true_and, Nat.reduceEqDiff, Nat.zero_add, Nat.reduceAdd, ↓z_wkE_nil, and_self, and_true, ↓z_wkO_cons, ↓lkoW_cons, reduceCtorEq, ↓z_wkO_nil]); (try simp only [Int.toNat_natCast, Nat.mul_one, Bool.or_false, Bool.false_or, Bool.or_self, Bool.or_true])
    exact ⟨0, by simp⟩
  rintro i ⟨hi, ha⟩
  by_cases h : i < m.v.length
  · have hlt : ((i : Int) < m.v.length) = True := eq_true (by omega)
    (simp -dsimp only [↓z_seq, ↓z_region, ↓z_ops_plain, ↓z_move, ↓evW_tmp, ↓lkW_cons, ↓reduceIte, ↓z_put, Nat.reduceLT, ↓z_fieldAddr, Nat.reduceEqDiff, ↓y_fl34x4, ↓y_sz32, ne_eq, reduceCtorEq, not_false_eq_true, ↓z_fa_ptr, ↓z_load, ↓y_ty32, ↓z_agTy_sl, ↓loadW_ptr, ↓lkoW_cons, ↓z_rd_f, ↓nthW_cons, Nat.zero_add, Nat.reduceSub, ↓z_callb, ↓z_evL_cons, ↓z_evL_nil, ↓z_len, ↓z_ln_sl, ↓z_binOp, ↓z_bn_lss, ↓z_ops_nil, ↓z_seq_nrm, ↓z_cond, ↓z_cnd, ↓z_gdt, hlt, ↓z_skip, ↓z_block, ↓z_region_d, ↓y_mix, true_and])
    refine rgn_q (by decide +kernel) rfl ?_
    (simp -dsimp only [↓z_ops_plain, ↓z_fieldAddr, ↓evW_tmp, ↓lkW_cons, Nat.reduceEqDiff, ↓reduceIte, ↓y_fl34x4, ↓y_sz32, ne_eq, reduceCtorEq, not_false_eq_true, ↓z_fa_ptr, ↓z_put, Nat.reduceLT, ↓z_load, ↓y_ty32, ↓z_agTy_sl, ↓loadW_ptr, ↓lkoW_cons, ↓z_rd_f, ↓nthW_cons, Nat.zero_add, Nat.reduceSub, ↓z_move, ↓z_indexAddr, ↓z_elTy_sl, ↓y_sz41, ↓z_ix_sl, ↓y_fl41x0, ↓y_sz3, ↓z_fa_rop, ↓y_ty3, ↓z_agTy_int, ↓loadW_rop, ↓z_binOp, ↓z_ops_nil, ↓z_seq_nrm, ↓z_cond, ↓z_seq, ↓z_region, ↓z_assign, ↓evW_const, ↓constW_int, inR_i64, Int.reduceNeg, Int.reduceLE, and_self, ↓z_ret, ↓z_blk_rt, ↓z_seq_rt, ↓z_lp_rt, ↓z_end_rt, resLW, res1W, ↓z_coeL_cons, ↓z_coeL_nil, ↓z_pack1, ↓z_coe_int, D.int.injEq, true_and, ↓z_skip, ↓z_blk_nrm, ↓z_bn_add, ↓wrW_i64, ↓z_lp_nrm, ↓z_wk, ↓z_wkE_cons, ↓z_wkE_nil, and_true, ↓z_wkO_cons, ↓z_wkO_nil, nth_bl0, ↓z_bn_eql, ↓z_cnd, ↓z_gdt, z_ite]); (try simp only [Int.toNat_natCast])
    refine ⟨by omega, by omega, h, fun g => ?_, fun g => ⟨by omega, i + 1, ⟨by omega, fun j hj hx => ?_⟩, by omega, by omega⟩⟩
    · rcases h5 with ⟨a, b⟩ | ⟨a, b, d⟩ | ⟨a, b, d⟩
      · omega
      · exact d.symm
      · have : (m.v.any fun x => decide (x.h = v.h)) = true := List.any_eq_true.2 ⟨m.v[i], List.getElem_mem _, decide_eq_true g⟩
        rw [this] at b; cases b
    · by_cases e : j = i
      · subst e; exact decide_eq_false g
      · exact ha j (by omega) hx
  · have hlt : ((i : Int) < m.v.length) = False := eq_false (by omega)
    (simp -dsimp only [↓z_seq, ↓z_region, ↓z_ops_plain, ↓z_move, ↓evW_tmp, ↓lkW_cons, ↓reduceIte, ↓z_put, Nat.reduceLT, ↓z_fieldAddr, Nat.reduceEqDiff, ↓y_fl34x4, ↓y_sz32, ne_eq, reduceCtorEq, not_false_eq_true, ↓z_fa_ptr, ↓z_load, ↓y_ty32, ↓z_agTy_sl, ↓loadW_ptr, ↓lkoW_cons, ↓z_rd_f, ↓nthW_cons, Nat.zero_add, Nat.reduceSub, ↓z_callb, ↓z_evL_cons, ↓z_evL_nil, ↓z_len, ↓z_ln_sl, ↓z_binOp, ↓z_bn_lss, ↓z_ops_nil, ↓z_seq_nrm, ↓z_cond, ↓z_cnd, ↓z_gdt, hlt, ↓z_exit, ↓z_seq_ext, ↓z_lp_ext, ↓z_blk_ext, ↓y_fl41x1, ↓y_sz3, ↓y_ty3, ↓z_agTy_int, ↓y_fl34x1, ↓z_bn_gtr, ↓z_assign, ↓evW_const, ↓constW_int, inR_i64, Int.reduceNeg, Int.reduceLE, and_self, ↓z_ret, ↓z_seq_rt, ↓z_end_rt, resLW, res1W, ↓z_coeL_cons, ↓z_coeL_nil, ↓z_pack1, ↓z_coe_int, D.int.injEq, true_and, ↓z_skip, ↓z_region_d, ↓y_mix, z_ite])
    have h6 : (m.l < v.t ∧ voE c m v = 18) ∨ (¬ m.l < v.t ∧ v.t < lstT m ∧ voE c m v = 15) ∨ (¬ m.l < v.t ∧ ¬ v.t < lstT m ∧ voE c m v = if v.s = sealD c m v.h v.t v.y then 0 else 16) := by
      rcases h5 with ⟨a, b⟩ | ⟨a, a2, b⟩ | ⟨a, a2, b⟩
      · omega
      · obtain ⟨x, hx, hx2⟩ := List.any_eq_true.1 a2
        obtain ⟨j, hj, rfl⟩ := List.getElem_of_mem hx
        rw [ha j (by omega) hj] at hx2; cases hx2
      · exact b
    clear h5
    have hl3 : m.n ≤ lstT m := by
      rcases @lst_pos m with e | ⟨p, e⟩ <;> omega
    refine ⟨fun a2 => by rcases h6 with ⟨a, b⟩ | ⟨a, b, d⟩ | ⟨a, b, d⟩ <;> omega, fun a2 => ?_⟩
    refine rgn_q (by decide +kernel) rfl ?_
    (simp -dsimp only [↓z_ops_plain, ↓z_fieldAddr, ↓evW_tmp, ↓lkW_cons, Nat.reduceEqDiff, ↓reduceIte, ↓y_fl41x1, ↓y_sz3, ne_eq, reduceCtorEq, not_false_eq_true, ↓z_fa_ptr, ↓z_put, Nat.reduceLT, ↓z_load, ↓y_ty3, ↓z_agTy_int, ↓loadW_ptr, ↓lkoW_cons, ↓z_rd_f, ↓nthW_cons, Nat.zero_add, Nat.reduceSub, ↓y_fl34x3, ↓z_binOp, ↓z_bn_lss, ↓z_move, ↓z_ops_guard, ↓z_grd, ↓z_dst_s, ↓z_dst_0, ↓z_grdD_b, ↓z_gdf, ↓z_gnf, ↓z_gft, ↓z_grdD_u, ↓z_pick, ↓z_pick_b, ↓z_gnt, ↓z_gff, ↓evW_const, ↓constW_bool, ↓z_ops_nil, ↓z_seq_nrm, ↓z_cond, ↓z_cnd, ↓z_gtt, ↓z_seq, ↓z_region, ↓z_assign, ↓constW_int, inR_i64, Int.reduceNeg, Int.reduceLE, and_self, ↓z_ret, ↓z_seq_rt, ↓z_end_rt, resLW, res1W, Bool.not_false, ↓z_coeL_cons, ↓z_coeL_nil, ↓z_pack1, ↓z_coe_int, D.int.injEq, true_and, ↓y_fl34x4, ↓y_sz32, ↓y_ty32, ↓z_agTy_sl, ↓z_callb, ↓z_evL_cons, ↓z_evL_nil, ↓z_len, ↓z_ln_sl, ↓z_bn_gtr, ↓z_gdt, ↓z_bn_sub, ↓wrW_i64, ↓z_indexAddr, ↓z_elTy_sl, ↓y_sz41, ↓z_ix_sl, ↓z_fa_rop, ↓loadW_rop, ↓z_skip, ↓y_ty25, ↓y_sz25, ↓z_agTy_st, ↓z_rd_t, List.length_cons, List.length_nil, Nat.reduceAdd, Nat.reduceLeDiff, ↓z_sub_c, ↓z_sub_nil, ↓y_ty34, ↓y_sz34, ↓y_fl41x0, ↓y_fl41x2, ↓y_sz4, ↓y_ty4, ↓z_agTy_bool, ↓z_callv, ↓evW_func, ↓z_fun0, ↓z_coe_oag, ↓z_coeC_cons, ↓z_coeS_sl, ↓z_coeS_int, ↓z_coeC_nil, ↓z_coe_bool, nth_bl1, z_ite, ↓z_gtf]); (try simp only [Int.toNat_natCast, Nat.mul_one, Bool.or_false, Bool.false_or, Bool.or_self, Bool.or_true])
    have hidx : ((m.v.length : Int) - 1).toNat = m.v.length - 1 := by omega
    simp only [hidx]
    refine ⟨fun a3 => by rcases h6 with ⟨a, b⟩ | ⟨a, b, d⟩ | ⟨a, b, d⟩ <;> omega, fun a3 => ⟨fun a4 => ⟨by omega, by omega, by omega, by omega, fun a5 => ?_, fun a5 => ?_⟩, fun a4 => ?_⟩⟩
    · have := @lst_s m (by omega)
      rcases h6 with ⟨a, b⟩ | ⟨a, b, d⟩ | ⟨a, b, d⟩ <;> omega
    all_goals
      have h7 : voE c m v = if v.s = sealD c m v.h v.t v.y then 0 else 16 := by
        have nl : ¬ v.t < lstT m := by
          by_cases p : 0 < m.v.length
          · have := lst_s p; omega
          · have := @lst_0 m (by omega); omega
        rcases h6 with ⟨a, b⟩ | ⟨a, b, d⟩ | ⟨a, b, d⟩
        · omega
        · exact absurd b nl
        · exact d
      clear h6
      have e2 : slD c m v.h v.t v.y = sealD c m v.h v.t v.y := if_pos (by unfold slE; rw [if_pos hc, if_neg (by omega)])
      have l16 := sealD_len c m v.h v.t v.y
      rw [e2] at hS
      refine call_fnL hS (fun d hd => by
        rcases List.mem_append.1 hd with q | q
        · exact flS_bytes _ d q
        · simp at q; subst q; rfl) fun _ => ?_
      (simp -dsimp only [↓z_put, Nat.reduceLT, ↓z_ops_plain, ↓z_alloc, ↓y_zr64, ↓z_new, ↓z_nm_cons, ↓z_nmC_cons, ↓z_mn'_int, ↓z_mn'_bool, ↓z_nmC_bytes, and_self, ↓z_mn'_sl, ↓z_nmC_nil, ↓z_nm_nil, ↓z_pg_cons, ↓z_mn_agg, ↓z_mn_bool, ↓z_mn_ptr, Nat.reduceEqDiff, ↓reduceIte, ↓z_mn_int, ↓z_mn_oag, ↓z_mnL_int, ↓z_mnL_sl, ↓z_mnL_nil, ↓z_mn_rop, ↓z_mn_sl, reduceCtorEq, ↓z_pg_nil, ↓z_store, ↓evW_tmp, ↓lkW_cons, ↓y_sz64, ↓z_cl_agg, List.length_append, List.length_map, List.length_cons, List.length_nil, Nat.zero_add, ↓z_store_ptr, ↓lkoW_cons, Nat.reduceAdd, Nat.reduceLeDiff, ↓spsW_cons, ↓drW_cons, Nat.reduceSub, ↓drW_nil, ↓z_cat_nil_r, ↓z_so_cons, ↓z_put_none, ↓z_ops_nil, ↓z_seq_nrm, ↓z_seq, ↓z_region, ↓z_fieldAddr, ↓y_fl41x3, ↓y_sz39, ne_eq, not_false_eq_true, ↓z_fa_ptr, ↓z_load, ↓y_ty39, ↓z_agTy_arr, ↓loadW_ptr, ↓z_rd_t, ↓z_sub_cs, ↓z_sub_map, ↓y_fl64x0, ↓z_binOp, ↓z_bn_ooqn, ↓z_allP_bytes, ↓y_fk39, ↓kdM_bytes, List.drop_zero, List.length_take, ↓z_cond, ↓z_cnd, ↓z_gnt, ↓z_geqf, ↓z_assign, ↓evW_const, ↓constW_int, inR_i64, Int.reduceNeg, Int.reduceLE, ↓z_ret, ↓z_seq_rt, ↓z_end_rt, resLW, res1W, ↓z_coeL_cons, ↓z_coeL_nil, ↓z_pack1, ↓z_coe_int, D.int.injEq, true_and, ↓z_skip, z_sub, ↓z_mn_tup, Bool.not_true]); (try simp only [Int.toNat_natCast, Nat.mul_one, Bool.or_false, Bool.false_or, Bool.or_self, Bool.or_true])
      have et : List.take 16 ((sealD c m v.h v.t v.y).map bD ++ [D.int .i64 (slE c v.h)]) = (sealD c m v.h v.t v.y).map bD := by
        rw [List.take_append_of_le_length (by simp [l16]), List.take_of_length_le (by simp [l16])]
      rw [et, List.take_of_length_le (show v.s.length ≤ 16 by omega), h7, kdM_bytes]
      refine ⟨l16, by omega, by omega, fun d hd => flS_isP (flS_bytes _ d hd), by omega, l16, fun g => ?_, fun g => ?_⟩
      · rw [if_neg fun g2 => g (by rw [g2])]
      · rw [if_pos (bDs_inj g)]
end Go.Abs

