/-
  EXTEND, eleventh walks: the reference's digest of a decision.
-/
import Derived.Test.YtaakjjhifhjbfaaDoorE11
namespace Go.Abs
open Go.Proofs
set_option maxRecDepth 100000 in
set_option maxHeartbeats 900000 in
theorem fn_refRecord (b : List UInt8) (hb : b.length = 16) (m : Pl) (now : Int) (hv : m.v.length ≤ 1000) : Fn GK Tryd.prog 29 [.agg (b.map bD), .agg (plC m), .int .i64 now] (.agg ((recD b m now).map bD)) := by
  unfold plC
  refine Fn.mk (c := _) Tryd.func29 rfl rfl Tryd.ntmps29 Tryd.results29 ?_
  (simp -dsimp only [bodyW, List.length_cons, List.length_nil, Nat.zero_add, Nat.reduceAdd, Nat.reduceLeDiff, wfL, ↓z_seq, ↓z_region, ↓z_ops_plain, ↓z_box, ↓evW_tmp, ↓z_lk_env, ↓reduceIte, ↓z_cl_agg, ↓z_nmC_bytes, ↓z_new, ↓z_nm_nil, Nat.reduceLT, ↓z_pg_env, ↓z_mn_agg, ↓z_mn_int, ↓z_pg_env0, ↓z_put, ↓lkW_cons, Nat.reduceEqDiff, reduceCtorEq, ↓z_nmC_cons, ↓z_mn'_int, ↓z_mn'_sl, ↓z_nmC_nil, and_self, ↓z_nm_cons, ↓z_pg_cons, ↓z_mn_ptr, ↓z_pg_nil, ↓z_alloc, ↓y_zr39, ↓z_ops_nil, ↓z_seq_nrm, ↓z_region_d, ↓y_mix, true_and])
  intro _ hm hnow
  have e16 : List.take 16 b = b := List.take_of_length_le (by omega)
  have hp : ∀ k, ∀ x ∈ recL b m now k, x.length ≤ 16 := fun k => recL_parts hb (fun x hx => by
    have m1 := hm.2 (.int .i64 m.o) (by simp)
    have m2 := hm.2 (.int .i64 m.l) (by simp)
    have m3 := hm.2 (.int .i64 m.u) (by simp)
    have m4 := hm.2 (.int .i64 m.n) (by simp)
    simp only [List.mem_cons, List.not_mem_nil, or_false] at hx
    rcases hx with rfl | rfl | rfl | rfl | rfl | rfl
    · exact m1.1
    · exact m2.1
    · exact m3.1
    · exact m4.1
    · exact hnow.1
    · omega) fun v hvm => by
      have m5 := hm.2 (.sl 19 m.v.length (List.flatMap blC m.v)) (by simp)
      have m6 := m5.2 (.int .i64 v.h) (List.mem_flatMap.2 ⟨v, hvm, by simp [blC]⟩)
      have m7 := m5.2 (.int .i64 v.t) (List.mem_flatMap.2 ⟨v, hvm, by simp [blC]⟩)
      exact ⟨m6.1, m7.1⟩
  refine rgn_x 17 [] (by decide +kernel) ?_
  (simp -dsimp only [↓z_nmRE_cons, ↓z_nmR_ptr, Nat.zero_add, Nat.reduceAdd, Nat.reduceLT, Nat.reduceLeDiff, or_false, ↓z_nmR_agg, ↓z_nmR_int, ↓z_nmRE_nil, and_self, ↓z_nmRO_cons, ↓z_nmRL_cons, ↓z_nmRL_nil, ↓z_nmR_sl, ↓z_nmRL_byte, ↓z_nmRO_nil, ↓z_splitO_cons, List.not_mem_nil, ↓reduceIte, ↓z_splitO_nil, List.take_succ_cons, List.take_zero, List.drop_succ_cons, List.drop_zero, ↓z_seq, ↓z_region, ↓z_ops_plain, ↓z_assign, ↓evW_const, ↓constW_int, inR_i64, Int.reduceNeg, Int.reduceLE, ↓z_ops_nil, ↓z_seq_nrm, ↓z_block, ↓z_loop, true_and, resLW, res1W, ↓y_ty39, ↓y_sz39, ↓z_agTy_arr, ↓z_coeL_cons, ↓z_coeL_nil, ↓z_pack1, ↓z_callb, ↓z_evL_cons, ↓evW_tmp, ↓z_evL_nil, ↓z_append, ↓y_ty23, ↓z_slTy, ↓z_nint_sl, ↓y_sz9, ↓y_by9, ↓y_zr9, List.length_cons, List.length_nil, ↓z_drx_load, ↓z_drxS, ↓z_grd_none, ↓z_withE, ↓z_rd_tmp, ↓lkW_cons, Nat.reduceEqDiff, ↓z_rd_nil, ↓z_ap_cons, ↓z_ap_nil, ↓z_apO_cons, ↓z_apO_nil, ↓z_or_load, ↓z_load, ↓loadW_ptr, ↓lkoW_cons, reduceCtorEq, ↓z_rd_t, List.length_map, ↓z_sub_map, and_true, ↓z_exD_all, ↓z_exD_all2, ↓z_exD_and, ↓z_exD_eq, ↓z_nmR_oag, ↓z_put, ↓z_drxK, ↓z_drx_callv])
  refine ⟨by omega, nmRS_bD _ _, cv_ex ?_⟩
  (simp -dsimp only [↓z_drxA_callv, ↓z_grd_none, ↓z_withE, ↓z_rd_func, ↓z_rd_tmp, ↓lkW_cons, ↓reduceIte, ↓z_rd_nil])
  refine ex_mk (.str b) (fun E X => by (simp -dsimp only [↓z_ap_cons, ↓z_ap_nil, ↓z_apO_cons, ↓z_apO_nil, ↓z_callv, ↓evW_func, ↓z_evL_cons, ↓evW_tmp, ↓lkW_cons, ↓reduceIte, ↓z_evL_nil, ↓z_fun0, ↓z_coeL_cons, ↓z_coe_oag, ↓z_coeC_bytes, ↓z_coeL_nil]); (try simp only [Int.toNat_natCast, Nat.mul_one, Bool.or_false, Bool.false_or, Bool.or_self, Bool.or_true]); exact call_fnL ((fn_Text GK b hb).inp (by rw [e16])) rfl fun _ => ⟨rfl, rfl⟩) ?_
  (simp -dsimp only [↓z_nmR_str, ↓z_put, Nat.reduceLT, ↓z_drxK, ↓z_drx_buildSlice, ↓z_drxS, ↓z_grd_none, ↓z_withE, ↓z_mpO_cons, ↓z_rd_tmp, ↓lkW_cons, ↓reduceIte, ↓z_rd_nil, ↓z_mpO_nil, ↓z_ap_app, ↓z_ap_nil, ↓z_ap_cons, ↓z_apO_cons, ↓z_apO_nil, ↓z_or_buildSlice, ↓z_buildSlice, ↓y_ty23, ↓z_slTy, ↓y_sz9, Nat.mul_one, Nat.reduceLeDiff, maxLen_lit, ↓y_zr9, List.length_cons, List.length_nil, Nat.zero_add, ↓z_repL_s, ↓z_repL_0, ↓z_cat_nil_r, ↓z_bld_cons, ↓evW_tmp, ↓z_cl_str, ↓spsW_cons, ↓drW_cons, reduceCtorEq, ↓drW_nil, ↓z_bld_nil, ↓z_allP_cons, ↓z_isP_str, ↓z_allP_nil, and_self, and_true, true_and, ↓z_exD_all, ↓z_exD_all2, ↓z_exD_eq, ↓z_nmR_slx, ↓z_drx_fieldAddr, Nat.reduceEqDiff, ↓z_or_fieldAddr, ↓z_fieldAddr, ↓y_fl34x0, ↓y_sz3, ne_eq, not_false_eq_true, ↓z_fa_ptr, ↓z_nmR_ptr, or_false, ↓z_drx_load, ↓z_or_load, ↓z_load, ↓y_ty3, ↓z_agTy_int, ↓loadW_ptr, ↓lkoW_cons, ↓z_rd_f, ↓nthW_cons, ↓z_nmR_int, ↓y_fl34x1, Nat.reduceSub, ↓y_fl34x2, ↓y_fl34x3, ↓z_drx_move, ↓z_or_move, ↓z_move, ↓y_fl34x4, ↓y_sz32, ↓y_ty32, ↓z_agTy_sl, ↓z_nmR_sl, ↓z_drx_callb_len, ↓z_or_callv, ↓z_callb, ↓z_evL_cons, ↓z_evL_nil, ↓z_len, ↓z_ln_sl, ↓y_ty22, ↓y_zr3, ↓catW_cons, ↓catW_nil, ↓z_cl_int, Nat.reduceAdd, ↓z_isP_int, ↓z_drx_callv]); (try simp only [Int.toNat_natCast, Nat.mul_one, Bool.or_false, Bool.false_or, Bool.or_self, Bool.or_true])
  refine cv_new (.osl 3 1 6) ((txt [m.o, m.l, m.u, m.n, now, m.v.length]).map D.str) (fun i _ _ h3 => by simp [mn]; omega) ?_
  (simp -dsimp only [Nat.reduceLT, ↓z_rd_func, ↓z_rd_tmp, ↓lkW_cons, ↓reduceIte, ↓z_rd_nil, ↓z_nmRL_str, ↓z_ap_cons, ↓z_ap_nil, ↓z_apO_cons, ↓z_apO_nil, ↓z_callv, ↓evW_func, ↓z_evL_cons, ↓evW_tmp, ↓z_evL_nil, ↓z_fun0, ↓z_coeL_cons, ↓z_coe_slx, ↓z_coeL_nil, ↓z_drx_nil, Nat.reduceEqDiff, ↓z_src_osl, ↓lkoW_cons, ↓z_allP_str, List.length_map, Nat.mul_one, ↓z_app_slx, ↓z_room, Nat.reduceAdd, Nat.reduceMul, Nat.reduceLeDiff, maxLen_lit, reduceCtorEq, ↓z_new, ↓z_nm_cons, ↓z_nmC_str, ↓z_nmC_cons, ↓z_mn'_int, ↓z_nmC_nil, and_self, ↓z_mn'_sl, ↓z_nmC_bytes, ↓z_nm_nil, ↓z_pg_cons, ↓z_mn_osl, ↓z_mn_slx, ↓z_mn_int, ↓z_mn_sl, ↓z_mn_ptr, ↓z_mn_str, ↓z_mn_oag, ↓z_mnL_bytes, ↓z_mn_agg, ↓z_pg_nil, ↓z_put, true_and, false_and, false_or])
  refine ⟨fun E X hX => ?_, ?_⟩
  · refine call_own ((fn_reftexts GK [m.o, m.l, m.u, m.n, now, m.v.length] (by simp)).weak (.cons (.slx ..) .nil)) fun _ => ?_
    (simp -dsimp only [↓z_new, ↓z_nm_cons, ↓z_nmC_cons, ↓z_mn'_int, ↓z_nmC_nil, and_self, ↓z_mn'_sl, ↓z_nmC_bytes, ↓z_pg_cons, ↓z_mn_slx, D.osl.injEq, true_and, Nat.reduceAdd, hX]); (try simp only [Int.toNat_natCast, Nat.mul_one, Bool.or_false, Bool.false_or, Bool.or_self, Bool.or_true])
    simp [pgW, purge, mn, txt]
  refine ⟨rfl, .inl ?_⟩
  refine hold_intro ⟨[], Nat, fun k => ⟨59, 5, [(8, .int .i64 k), (7, .osl 4 1 (7 + 4 * k)), (4, .ptr 1 0), (6, .ptr 2 0)],
    [(4, (recL b m now k).map D.str), (2, (List.replicate 16 0).map bD), (1, [.int .i64 m.o, .int .i64 m.l, .int .i64 m.u, .int .i64 m.n, .sl 19 m.v.length (List.flatMap blC m.v)])]⟩, fun k => k ≤ m.v.length, fun k => m.v.length - k, ?_, ?_⟩
  · (simp -dsimp only [↓z_ad_nil, ↓z_wk, ↓z_wkE_cons, ↓lkW_cons, ↓reduceIte, D.int.injEq, true_and, Nat.reduceEqDiff, Nat.reduceAdd, D.osl.injEq, ↓z_wkE_nil, and_self, and_true, ↓z_wkO_cons, ↓lkoW_cons, ↓z_wkO_nil]); (try simp only [Int.toNat_natCast, Nat.mul_one, Bool.or_false, Bool.false_or, Bool.or_self, Bool.or_true])
    exact ⟨0, by omega, ⟨rfl, rfl⟩, by simp [recL], rfl⟩
  intro i hi
  have hLl := recL_len b m now i hi
  by_cases h : i < m.v.length
  · have hsub := fun k => bl_sub1 h k
    have hl2 := bl_len m.v
    have hlt : ((i : Int) < m.v.length) = True := eq_true (by omega)
    have hs16 := m.v[i].hs
    have es16 : List.take 16 m.v[i].s = m.v[i].s := List.take_of_length_le (by omega)
    (simp -dsimp only [↓z_seq, ↓z_region, ↓z_ops_plain, ↓z_move, ↓evW_tmp, ↓lkW_cons, ↓reduceIte, ↓z_put, Nat.reduceLT, ↓z_fieldAddr, Nat.reduceEqDiff, ↓y_fl34x4, ↓y_sz32, ne_eq, reduceCtorEq, not_false_eq_true, ↓z_fa_ptr, ↓z_load, ↓y_ty32, ↓z_agTy_sl, ↓loadW_ptr, ↓lkoW_cons, ↓z_rd_f, ↓nthW_cons, Nat.zero_add, Nat.reduceSub, ↓z_callb, ↓z_evL_cons, ↓z_evL_nil, ↓z_len, ↓z_ln_sl, ↓z_binOp, ↓z_bn_lss, ↓z_ops_nil, ↓z_seq_nrm, ↓z_cond, ↓z_cnd, ↓z_gdt, hlt, ↓z_skip, ↓z_block, ↓z_indexAddr, ↓z_elTy_sl, ↓y_sz41, ↓z_ix_sl, ↓y_ty41, ↓z_agTy_st, ↓loadW_rop, ↓z_rd_t, hl2, ↓hsub, ↓z_alloc, ↓y_zr41, ↓z_new, ↓z_nm_cons, ↓z_nmC_str, ↓z_nmC_bytes, ↓z_nmC_cons, ↓z_mn'_int, ↓z_mn'_sl, ↓z_nmC_nil, and_self, ↓z_nm_nil, ↓z_pg_cons, ↓z_mn_agg, ↓z_mn_rop, ↓z_mn_int, ↓z_mn_sl, ↓z_mn_ptr, ↓z_mn_bool, ↓z_mn_osl, ↓z_pg_nil, ↓z_store, ↓z_cl_agg, List.length_cons, List.length_map, ↓z_store_ptr, List.length_nil, Nat.reduceAdd, Nat.reduceLeDiff, ↓spsW_cons, ↓drW_cons, ↓drW_nil, ↓z_cat_nil_r, ↓z_so_cons, ↓z_put_none, ↓z_region_d, ↓y_mix, true_and]); (try simp only [Int.toNat_natCast])
    refine ⟨by omega, by omega, hs16, ?_⟩
    refine rgn_x 10 [] (by decide +kernel) ?_
    (simp -dsimp only [↓z_nmRE_cons, ↓z_nmR_ptr, Nat.reduceAdd, Nat.reduceLT, Nat.reduceLeDiff, or_false, ↓z_nmR_agg, ↓z_nmR_rop, ↓z_nmR_int, ↓z_nmR_sl, ↓z_nmR_bool, ↓z_nmR_osl, ↓z_nmRE_nil, and_self, ↓z_nmRO_cons, ↓z_nmRL_cons, ↓z_nmRL_byte, ↓z_nmRL_str, ↓z_nmRL_nil, ↓z_nmRO_nil, ↓z_splitO_cons, List.not_mem_nil, ↓reduceIte, ↓z_splitO_nil, List.take_succ_cons, List.take_zero, Nat.zero_add, List.drop_succ_cons, List.drop_zero, ↓z_region, ↓z_ops_plain, ↓z_move, ↓z_fieldAddr, ↓y_fl41x3, ↓y_sz39, ne_eq, reduceCtorEq, not_false_eq_true, ↓z_load, ↓y_ty39, ↓z_agTy_arr, ↓z_callv, ↓evW_func, ↓z_evL_cons, ↓z_evL_nil, ↓z_fun0, ↓z_coeL_cons, ↓z_coeL_nil, true_and, ↓z_binOp, ↓evW_const, ↓constW_int, inR_i64, Int.reduceNeg, Int.reduceLE, ↓z_assign, ↓z_ops_nil, ↓z_lp_nrm, ↓z_seq, ↓z_coe_int, resLW, res1W, ↓z_pack1, ↓z_callb, ↓evW_tmp, ↓z_append, ↓y_ty23, ↓z_slTy, ↓z_nint_sl, ↓y_sz9, ↓y_by9, ↓y_zr9, List.length_cons, List.length_nil, ↓z_seq_nrm, ↓z_drx_move, ↓z_drxS, ↓z_grd_none, ↓z_withE, ↓z_rd_tmp, ↓lkW_cons, Nat.reduceEqDiff, ↓z_rd_nil, ↓z_ap_cons, ↓z_ap_nil, ↓z_apO_cons, ↓z_apO_nil, ↓z_or_move, and_true, ↓z_exD_all, ↓z_exD_all2, ↓z_exD_eq, ↓z_put, ↓z_drxK, ↓z_drx_fieldAddr, ↓z_or_fieldAddr, ↓y_fl41x0, ↓y_sz3, ↓z_fa_ptr, ↓z_drx_load, ↓z_or_load, ↓y_ty3, ↓z_agTy_int, ↓loadW_ptr, ↓lkoW_cons, ↓z_rd_f, ↓nthW_cons, ↓y_fl41x1, Nat.reduceSub, ↓y_fl41x2, ↓y_sz4, ↓y_ty4, ↓z_agTy_bool, ↓z_drx_callv]); (try simp only [Int.toNat_natCast, Nat.mul_one, Bool.or_false, Bool.false_or, Bool.or_self, Bool.or_true])
    refine cv_ex ?_
    (simp -dsimp only [↓z_drxA_callv, ↓z_grd_none, ↓z_withE, ↓z_rd_func, ↓z_rd_tmp, ↓lkW_cons, ↓reduceIte, ↓z_rd_nil]); (try simp only [Int.toNat_natCast, Nat.mul_one, Bool.or_false, Bool.false_or, Bool.or_self, Bool.or_true])
    refine ex_mk (.int .i64 (flg m.v[i].y)) (fun E X => by (simp -dsimp only [↓z_ap_cons, ↓z_ap_nil, ↓z_apO_cons, ↓z_apO_nil, ↓z_callv, ↓evW_func, ↓z_evL_cons, ↓evW_tmp, ↓lkW_cons, ↓reduceIte, ↓z_evL_nil, ↓z_fun0, ↓z_coeL_cons, ↓z_coe_bool, ↓z_coeL_nil]); (try simp only [Int.toNat_natCast, Nat.mul_one, Bool.or_false, Bool.false_or, Bool.or_self, Bool.or_true]); exact call_fnL (fn_refflag GK _) rfl fun _ => ⟨rfl, rfl⟩) ?_
    (simp -dsimp only [↓z_nmR_int, ↓z_put, Nat.reduceLT, ↓z_drxK, ↓z_drx_buildSlice, ↓z_drxS, ↓z_grd_none, ↓z_withE, ↓z_mpO_cons, ↓z_rd_tmp, ↓lkW_cons, Nat.reduceEqDiff, ↓reduceIte, ↓z_rd_nil, ↓z_mpO_nil, ↓z_ap_app, ↓z_ap_nil, ↓z_ap_cons, ↓z_apO_cons, ↓z_apO_nil, ↓z_or_buildSlice, ↓z_buildSlice, ↓y_ty22, ↓z_slTy, ↓y_sz3, Nat.mul_one, Nat.reduceLeDiff, maxLen_lit, ↓y_zr3, List.length_cons, List.length_nil, Nat.zero_add, ↓z_repL_s, ↓z_repL_0, ↓z_cat_nil_r, ↓catW_cons, ↓catW_nil, ↓z_bld_cons, ↓evW_tmp, ↓z_cl_int, Nat.reduceAdd, ↓spsW_cons, ↓drW_cons, reduceCtorEq, Nat.reduceSub, ↓drW_nil, ↓z_bld_nil, ↓z_allP_cons, ↓z_isP_int, ↓z_allP_nil, and_self, and_true, true_and, ↓z_exD_all, ↓z_exD_all2, ↓z_exD_eq, ↓z_nmR_slx, ↓z_drx_callv]); (try simp only [Int.toNat_natCast, Nat.mul_one, Bool.or_false, Bool.false_or, Bool.or_self, Bool.or_true])
    refine cv_new (.osl 6 1 3) ((txt [m.v[i].h, m.v[i].t, flg m.v[i].y]).map D.str) (fun i _ _ h3 => by simp [mn]; omega) ?_
    (simp -dsimp only [Nat.reduceLT, ↓z_rd_func, ↓z_rd_tmp, ↓lkW_cons, ↓reduceIte, ↓z_rd_nil, ↓z_nmRL_str, ↓z_ap_cons, ↓z_ap_nil, ↓z_apO_cons, ↓z_apO_nil, ↓z_callv, ↓evW_func, ↓z_evL_cons, ↓evW_tmp, ↓z_evL_nil, ↓z_fun0, ↓z_coeL_cons, ↓z_coe_slx, ↓z_coeL_nil, ↓z_drx_nil, Nat.reduceEqDiff, ↓z_src_osl, ↓lkoW_cons, ↓z_allP_str, List.length_map, Nat.mul_one, ↓z_app_osl, ↓z_nmC_str, ↓z_room, maxLen_lit, Nat.reduceLeDiff, ↓z_pgo_cons, ↓z_pgc_nm, ↓z_nmC_cons, ↓z_mn'_int, ↓z_mn'_bool, ↓z_nmC_bytes, and_self, ↓z_mn'_sl, ↓z_nmC_nil, ↓z_pgo_nil, ↓z_pg_cons, ↓z_mn_osl, ↓z_mn_slx, ↓z_mn_int, ↓z_mn_bool, ↓z_mn_ptr, ↓z_mn_agg, ↓z_mn_rop, ↓z_mn_sl, ↓z_pg_nil, ↓z_so_cons, ↓z_put, ↓z_fa_ptr, ↓loadW_ptr, ↓z_rd_t, Nat.zero_add, Nat.reduceAdd, List.length_cons, ↓z_sub_cs, ↓z_sub_map, ↓z_coe_oag, ↓z_coeC_bytes, true_and]); (try simp only [Int.toNat_natCast, Nat.mul_one, Bool.or_false, Bool.false_or, Bool.or_self, Bool.or_true])
    refine ⟨fun E X hX => ?_, ?_⟩
    · refine call_own ((fn_reftexts GK [m.v[i].h, m.v[i].t, flg m.v[i].y] (by simp)).weak (.cons (.slx ..) .nil)) fun _ => ?_
      (simp -dsimp only [↓z_new, ↓z_nm_cons, ↓z_nmC_cons, ↓z_mn'_int, ↓z_mn'_bool, ↓z_nmC_bytes, and_self, ↓z_nmC_str, ↓z_mn'_sl, ↓z_nmC_nil, ↓z_pg_cons, ↓z_mn_slx, D.osl.injEq, true_and, Nat.reduceAdd, hX]); (try simp only [Int.toNat_natCast, Nat.mul_one, Bool.or_false, Bool.false_or, Bool.or_self, Bool.or_true])
      simp [pgW, purge, mn, txt]
    refine ⟨rfl, hLl, by omega, by omega, by omega, ?_⟩
    refine call_fnL ((fn_Text GK m.v[i].s hs16).inp (by rw [List.drop_zero, es16])) rfl fun _ => ?_
    (simp -dsimp only [↓z_put, Nat.reduceLT, ↓z_ops_plain, ↓z_buildSlice, ↓y_ty23, ↓z_slTy, ↓y_sz9, Nat.mul_one, Nat.reduceLeDiff, maxLen_lit, ↓y_zr9, List.length_cons, List.length_nil, Nat.zero_add, ↓z_repL_s, ↓z_repL_0, ↓z_cat_nil_r, ↓z_bld_cons, ↓evW_tmp, ↓lkW_cons, ↓reduceIte, ↓z_cl_str, ↓spsW_cons, ↓drW_cons, reduceCtorEq, ↓drW_nil, ↓z_bld_nil, ↓z_allP_cons, ↓z_isP_str, ↓z_allP_nil, and_self, ↓z_callb, ↓z_evL_cons, Nat.reduceEqDiff, ↓z_evL_nil, ↓z_append, ↓z_nint_sl, ↓y_by9, ↓z_src_slx, ↓z_app_osl, ↓lkoW_cons, List.length_append, List.length_map, ↓z_nmC_app, ↓z_nmC_str, ↓z_room, ↓z_pgo_cons, ↓z_pgc_nm, ↓z_nmC_cons, ↓z_mn'_int, ↓z_mn'_bool, ↓z_nmC_bytes, ↓z_mn'_sl, ↓z_nmC_nil, ↓z_pgo_nil, ↓z_pg_cons, ↓z_mn_slx, ↓z_mn_str, ↓z_mn_oag, ↓z_mnL_bytes, ↓z_mn_ptr, ↓z_mn_osl, ↓z_mn_int, ↓z_mn_bool, ↓z_mn_any, ↓z_mn_agg, ↓z_mn_rop, ↓z_mn_sl, ↓z_pg_nil, ↓z_so_cons, ↓z_assign, ↓z_ops_nil, ↓z_blk_nrm, ↓z_seq_nrm, ↓z_region, ↓z_move, ↓z_binOp, ↓evW_const, ↓constW_int, inR_i64, Int.reduceNeg, Int.reduceLE, ↓z_bn_add, ↓wrW_i64, ↓z_lp_nrm, ↓z_wk, ↓z_wkE_cons, D.int.injEq, true_and, D.osl.injEq, ↓z_wkE_nil, and_true, ↓z_wkO_cons, ↓z_wkO_nil]); (try simp only [Int.toNat_natCast, Nat.mul_one, Bool.or_false, Bool.false_or, Bool.or_self, Bool.or_true])
    refine ⟨by rw [txt_len, hLl]; rfl, by omega, by omega, by omega, i + 1, by omega, by omega, ⟨by omega, by omega⟩, ?_⟩
    rw [recL_s h]; simp
  · have hlt : ((i : Int) < m.v.length) = False := eq_false (by omega)
    (simp -dsimp only [↓z_seq, ↓z_region, ↓z_ops_plain, ↓z_move, ↓evW_tmp, ↓lkW_cons, ↓reduceIte, ↓z_put, Nat.reduceLT, ↓z_fieldAddr, Nat.reduceEqDiff, ↓y_fl34x4, ↓y_sz32, ne_eq, reduceCtorEq, not_false_eq_true, ↓z_fa_ptr, ↓z_load, ↓y_ty32, ↓z_agTy_sl, ↓loadW_ptr, ↓lkoW_cons, ↓z_rd_f, ↓nthW_cons, Nat.zero_add, Nat.reduceSub, ↓z_callb, ↓z_evL_cons, ↓z_evL_nil, ↓z_len, ↓z_ln_sl, ↓z_binOp, ↓z_bn_lss, ↓z_ops_nil, ↓z_seq_nrm, ↓z_cond, ↓z_cnd, ↓z_gdt, hlt, ↓z_exit, ↓z_seq_ext, ↓z_lp_ext, ↓z_blk_ext, ↓z_callv, ↓evW_func, ↓evW_const, ↓constW_int, inR_i64, Int.reduceNeg, Int.reduceLE, and_self, ↓z_fun0, ↓z_coeL_cons, ↓z_coe_int, ↓z_coe_osl, ↓z_allP_str, List.length_map, Nat.mul_one, ↓z_coeL_nil, true_and]); (try simp only [Int.toNat_natCast, Nat.mul_one, Bool.or_false, Bool.false_or, Bool.or_self, Bool.or_true])
    have ei : i = m.v.length := by omega
    refine ⟨hLl, call_fnL ((fn_rOf 151 (recL b m now i) (fun x hx => ?_) ?_).inp (by rw [hLl])) (flS_bytes _) fun _ => ?_⟩
    · have := hp i x hx; omega
    · have := parts_enc _ (hp i); omega
    (simp -dsimp only [↓z_put, Nat.reduceLT, ↓z_ops_plain, ↓z_store, ↓evW_tmp, ↓lkW_cons, Nat.reduceEqDiff, ↓reduceIte, ↓y_sz39, ↓z_cl_agg, List.length_map, ↓z_store_ptr, ↓lkoW_cons, Nat.zero_add, ↓z_sps_map, ↓z_so_cons, ↓z_put_none, ↓z_ops_nil, ↓z_seq_nrm, ↓z_ret, ↓z_end_rt, resLW, res1W, ↓y_ty39, ↓z_agTy_arr, ↓z_coeL_cons, ↓z_coeL_nil, ↓z_pack1, ↓loadW_ptr, ↓z_rd_t, List.length_append, List.length_take, List.length_drop, ↓z_sub_map, ↓z_coe_oag, ↓z_coeC_bytes, D.agg.injEq, true_and]); (try simp only [Int.toNat_natCast, Nat.mul_one, Bool.or_false, Bool.false_or, Bool.or_self, Bool.or_true])
    have l16 := ofD_len 151 (recL b m now i)
    refine ⟨l16, by simp, by simp; omega, ?_⟩
    rw [recD_L, ← ei]
    simp [List.take_of_length_le, l16]
end Go.Abs

