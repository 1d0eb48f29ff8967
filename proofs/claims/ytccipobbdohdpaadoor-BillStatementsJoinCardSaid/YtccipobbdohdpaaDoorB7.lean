/-
  BILL, sixth walks: books are written; where they differ.
-/
import Derived.Test.YtccipobbdohdpaaDoorB6
namespace Go.Abs
open Go.Proofs
set_option maxRecDepth 100000 in
set_option maxHeartbeats 8000000 in
theorem fn_Clone (G : Glob) (r : List Po) (hx : r.length ≤ 1000000) : FnS G Tryd.prog 29 [.sl 6 r.length (List.flatMap poC r)] 6 r.length (List.flatMap poC r) := by
  refine FnS.mk (c := _) Tryd.func29 rfl rfl Tryd.ntmps29 Tryd.results29 ?_
  (simp -dsimp only [bodyW, List.length_cons, List.length_nil, Nat.zero_add, Nat.reduceLeDiff, wfL, ↓z_seq, ↓z_region, ↓z_ops_plain, ↓z_assign, ↓evW_const, ↓constW_nils, ↓z_put, Nat.reduceLT, ↓z_ops_nil, ↓z_seq_nrm, ↓z_move, ↓evW_tmp, ↓lkW_cons, reduceCtorEq, ↓reduceIte, ↓z_lk_env, ↓z_binOp, ↓z_bn_slnil, ↓y_ty22, ↓z_isSl, ↓z_nilW, ↓z_cond, ↓z_cnd, ↓z_gft, ↓z_skip, ↓z_buildSlice, ↓z_slTy, ↓y_sz26, Nat.zero_mul, maxLen_lit, ↓y_zr26, Nat.reduceAdd, ↓z_repL_0, ↓z_bld_nil, ↓z_allP_nil, ↓z_callb, ↓z_evL_cons, Nat.reduceEqDiff, ↓z_evL_nil, ↓z_append, ↓z_nint_sl, ↓y_by26, ↓z_src_sl, ↓z_app_slx, ↓z_room, ↓z_new, ↓z_nm_nil, ↓z_pg_cons, ↓z_mn_sl, ↓z_mn_slx, ↓z_mn_bool, ↓z_mn_nils, ↓z_pg_env, ↓z_pg_env0, ↓z_ret, ↓z_end_rt, resLW, res1W, ↓z_own_osl, ↓lkoW_cons, po_allP, po_len, and_self, List.nil_append, and_true, ↓z_envF_cons, ↓z_envF_nil, true_and, ↓z_seq_rt, ↓z_own_nils, z_gvar]); (try simp only [Int.toNat_natCast, Nat.mul_one, Bool.or_false, Bool.false_or, Bool.or_self, Bool.or_true])
  intro _
  refine ⟨fun h => ⟨by omega, by omega, .inl trivial⟩, fun h b => ?_⟩
  have e : r = [] := List.eq_nil_of_length_eq_zero (by omega)
  subst e
  exact ⟨fun _ => ⟨rfl, rfl⟩, fun _ => ⟨by simp, by simp, .inl trivial⟩⟩
theorem po_app2 (ps : List Po) (p : Po) : List.flatMap poC (ps ++ [p]) = List.flatMap poC ps ++ [.int .i64 p.d, .int .i64 p.c, .int .i64 p.a, .int .i64 p.t, .int .i64 p.w, .int .i64 p.r] := by simp [poC]
def pstE (acc : Int) (ps : List Po) (p : Po) : Int := if chkB acc ps = 0 then chkB acc (ps ++ [p]) else chkB acc ps
def pstA (acc : Int) (ps : List Po) (p : Po) : Int := if pstE acc ps p = 0 then acc else 0
def pstL (acc : Int) (ps : List Po) (p : Po) : List Po := if pstE acc ps p = 0 then ps ++ [p] else []
def bkN (acc : Int) (ps : List Po) : List D := if ps = [] then [.int .i64 acc, .nils] else bkC acc ps
theorem bkN_w (acc : Int) (ps : List Po) : DW (.agg (bkN acc ps)) (.agg (bkC acc ps)) := by
  unfold bkN
  split
  · rename_i e; subst e; exact .agg (.cons (.refl _) (.cons (.nils 6) .nil))
  · exact .refl _
set_option maxRecDepth 100000 in
set_option maxHeartbeats 4000000 in
theorem fn_Post (G : Glob) (acc : Int) (ps : List Po) (p : Po) : FnF G Tryd.prog 9 [.agg (bkC acc ps), .agg (poC p)] (.tup [.agg (bkC (pstA acc ps p) (pstL acc ps p)), .int .i64 (pstE acc ps p)]) := by
  refine FnF.outT ?_ (bkN_w _ _)
  have hC := fn_Check G acc ps
  have hC2 := fn_Check G acc (ps ++ [p])
  unfold bkC at hC hC2 ⊢
  rw [show poC p = [.int .i64 p.d, .int .i64 p.c, .int .i64 p.a, .int .i64 p.t, .int .i64 p.w, .int .i64 p.r] from rfl]
  refine FnF.mk (c := _) Tryd.func9 rfl rfl Tryd.ntmps9 Tryd.results9 ?_
  (simp -dsimp only [bodyW, List.length_cons, List.length_nil, Nat.zero_add, Nat.reduceAdd, Nat.reduceLeDiff, wfL, ↓z_seq, ↓z_region, ↓z_ops_plain, ↓z_box, ↓evW_tmp, ↓z_lk_env, ↓reduceIte, ↓z_cl_agg, ↓z_nmC_cons, ↓z_mn'_int, ↓z_mn'_sl, ↓z_nmC_nil, and_self, ↓z_new, ↓z_nm_nil, Nat.reduceLT, ↓z_pg_env, ↓z_mn_agg, ↓z_pg_env0, ↓z_put, ↓lkW_cons, Nat.reduceEqDiff, reduceCtorEq, ↓z_nm_cons, ↓z_pg_cons, ↓z_mn_ptr, ↓z_pg_nil, ↓z_alloc, ↓y_zr24, ↓z_assign, ↓evW_const, ↓constW_int, inR_i64, Int.reduceNeg, Int.reduceLE, ↓z_ops_nil, ↓z_seq_nrm, ↓z_load, ↓y_ty24, ↓y_sz24, ↓z_agTy_st, ↓loadW_ptr, ↓lkoW_cons, ↓z_rd_t, ↓z_sub_c, ↓z_sub_nil, ↓z_callv, ↓evW_func, ↓z_evL_cons, ↓z_evL_nil, ↓z_fun0, ↓z_coeL_cons, ↓z_coe_oag, ↓z_coeC_cons, ↓z_coeS_int, ↓z_coeS_sl, ↓z_coeC_nil, ↓z_coeL_nil, true_and])
  intro hd _
  refine call_fnL hC rfl fun _ => ?_
  (simp -dsimp only [↓z_put, Nat.reduceLT, ↓z_ops_plain, ↓z_assign, ↓evW_tmp, ↓lkW_cons, ↓reduceIte, ↓z_ops_nil, ↓z_seq_nrm, ↓z_seq, ↓z_region, ↓z_move, ↓z_binOp, ↓evW_const, ↓constW_int, inR_i64, Int.reduceNeg, Int.reduceLE, and_self, ↓z_bn_neq, ↓z_cond, ↓z_cnd, ↓z_gdt, ne_eq, ↓z_build, ↓y_ty24, ↓z_blTy_st, ↓y_zr24, ↓z_bld_nil, Nat.reduceEqDiff, ↓z_store, ↓y_sz24, ↓z_cl_oag, List.length_cons, List.length_nil, Nat.zero_add, Nat.reduceAdd, ↓z_store_ptr, ↓lkoW_cons, Nat.reduceLeDiff, ↓spsW_cons, ↓drW_cons, reduceCtorEq, Nat.reduceSub, ↓drW_nil, ↓z_cat_nil_r, ↓z_so_cons, ↓z_put_none, ↓z_ret, ↓z_seq_rt, ↓z_end_rt, resLW, res1W, ↓z_agTy_st, ↓z_frL_cons, ↓z_frL_nil, and_true, ↓z_coeL_cons, ↓z_coeL_nil, ↓z_pack2, D.tup.injEq, List.cons.injEq, ↓z_fr_int, ↓z_coe_int, D.int.injEq, true_and, ↓loadW_ptr, ↓z_rd_t, ↓z_sub_c, ↓z_sub_nil, ↓z_fr_oag, ↓z_frSL_cons, ↓z_frS_int, ↓z_frS_nils, ↓z_frSL_nil, ↓z_coe_oag, ↓z_coeC_cons, ↓z_coeS_int, ↓z_coeS_nils, ↓z_coeC_nil, D.agg.injEq, ↓z_skip, ↓z_region_d, ↓y_mix, z_ite, Classical.not_not])
  refine ⟨fun c0 => ?_, fun c0 => ?_⟩
  · have e : pstE acc ps p = chkB acc ps := if_neg c0
    unfold pstA pstL
    rw [e, if_neg c0, if_neg c0]
    exact ⟨by rfl, rfl, rfl⟩
  have hb := chkB_ok c0
  have hlen := hb.len
  have hl2 := po_len ps
  refine rgn_x 5 [] (by decide +kernel) ?_
  (simp -dsimp only [↓z_nmRE_cons, ↓z_nmR_bool, ↓z_nmR_int, ↓z_nmR_oag, ↓z_nmRS_int, ↓z_nmRS_sl, ↓z_nmRS_nil, ↓z_nmR_ptr, Nat.zero_add, Nat.reduceAdd, Nat.reduceLT, Nat.reduceLeDiff, or_false, ↓z_nmR_agg, ↓z_nmRE_nil, and_self, ↓z_nmRO_cons, ↓z_nmRL_cons, ↓z_nmR_nils, ↓z_nmRL_nil, ↓z_nmR_sl, ↓z_nmRO_nil, ↓z_splitO_cons, List.not_mem_nil, ↓reduceIte, ↓z_splitO_nil, List.take_succ_cons, List.take_zero, ne_eq, List.drop_succ_cons, List.drop_zero, ↓z_seq, ↓z_region, ↓z_ops_plain, ↓z_load, ↓y_ty24, ↓y_sz24, ↓z_agTy_st, ↓z_callv, ↓evW_func, ↓z_evL_cons, ↓z_evL_nil, ↓z_fun0, ↓z_coeL_cons, ↓z_coeL_nil, resLW, res1W, ↓z_frL_cons, ↓z_frL_nil, and_true, ↓z_pack2, D.tup.injEq, List.cons.injEq, ↓z_callb, ↓evW_tmp, ↓z_append, ↓y_ty22, ↓z_slTy, ↓z_nint_sl, ↓y_sz26, ↓y_by26, ↓y_zr26, List.length_cons, List.length_nil, ↓z_fieldAddr, ↓y_fl24x1, ↓y_sz22, reduceCtorEq, not_false_eq_true, ↓z_store, ↓z_put_none, ↓z_ops_nil, ↓z_seq_nrm, true_and, ↓z_drx_fieldAddr, ↓z_drxS, ↓z_grd_none, ↓z_withE, ↓z_rd_tmp, ↓lkW_cons, Nat.reduceEqDiff, ↓z_rd_nil, ↓z_ap_cons, ↓z_ap_nil, ↓z_apO_cons, ↓z_apO_nil, ↓z_or_fieldAddr, ↓z_fa_ptr, ↓z_exD_all, ↓z_exD_all2, ↓z_exD_eq, ↓z_put, ↓z_drxK, ↓z_drx_load, ↓z_or_load, ↓z_agTy_sl, ↓loadW_ptr, ↓lkoW_cons, ↓z_rd_f, ↓nthW_cons, Nat.reduceSub, ↓z_drx_callv])
  refine cv_new (.osl 3 6 ps.length) (List.flatMap poC ps) (fun i _ _ h3 => by simp [mn]; omega) ?_
  (simp -dsimp only [Nat.reduceLT, ↓z_rd_func, ↓z_rd_tmp, ↓lkW_cons, ↓reduceIte, ↓z_rd_nil, po_nmRL, ↓z_ap_cons, ↓z_ap_nil, ↓z_apO_cons, ↓z_apO_nil, ↓z_callv, ↓evW_func, ↓z_evL_cons, ↓evW_tmp, ↓z_evL_nil, ↓z_fun0, ↓z_coeL_cons, ↓z_coe_sl, ↓z_coeL_nil, ↓z_drx_load, ↓z_drxS, ↓z_grd_none, ↓z_withE, Nat.reduceEqDiff, ↓z_or_load, ↓z_load, ↓y_ty26, ↓y_sz26, ↓z_agTy_st, ↓loadW_ptr, ↓lkoW_cons, ↓z_rd_t, Nat.zero_add, List.length_cons, List.length_nil, Nat.reduceAdd, Nat.reduceLeDiff, ↓z_sub_c, ↓z_sub_nil, and_true, true_and, ↓z_exD_all, ↓z_exD_all2, ↓z_exD_eq, ↓z_nmR_oag, ↓z_nmRS_int, ↓z_nmRS_nil, ↓z_put, ↓z_drxK, ↓z_drx_buildSlice, ↓z_mpO_cons, ↓z_mpO_nil, ↓z_ap_app, ↓z_or_buildSlice, ↓z_buildSlice, ↓y_ty22, ↓z_slTy, Nat.reduceMul, maxLen_lit, ↓y_zr26, ↓z_repL_s, ↓z_repL_0, ↓z_cat_nil_r, ↓z_bld_cons, ↓z_cl_oag, Nat.zero_mul, ↓spsW_cons, ↓drW_cons, reduceCtorEq, Nat.reduceSub, ↓drW_nil, ↓z_bld_nil, ↓z_allP_cons, ↓z_isP_int, ↓z_allP_nil, and_self, ↓z_nmR_slx, ↓z_drx_nil, ↓z_src_slx, ↓z_app_osl, po_len, po_nmC, ↓z_room, ↓z_pgo_cons, ↓z_pgc_nm, ↓z_nmC_cons, ↓z_mn'_int, ↓z_mn'_nils, ↓z_nmC_nil, ↓z_mn'_sl, ↓z_pgo_nil, ↓z_pg_cons, ↓z_mn_slx, ↓z_mn_oag, ↓z_mnL_int, ↓z_mnL_nil, ↓z_mn_osl, ↓z_mn_sl, ↓z_mn_ptr, ↓z_mn_bool, ↓z_mn_int, ↓z_mnL_sl, ↓z_mn_agg, ↓z_pg_nil, ↓z_so_cons, ↓z_fa_ptr, ↓z_cl_osl, ↓z_store_ptr, ↓z_coe_oag, ↓z_coeC_cons, ↓z_coeS_int, ↓z_coeS_osl, ↓z_allP_app, po_allP, List.length_append, ↓z_coeC_nil]); (try simp only [Int.toNat_natCast, Nat.mul_one, Bool.or_false, Bool.false_or, Bool.or_self, Bool.or_true])
  refine ⟨fun E X hX => ?_, ?_⟩
  · refine call_own (fn_Clone G ps (by omega)) fun _ => ?_
    (simp -dsimp only [↓z_new, ↓z_nm_cons, ↓z_nmC_cons, ↓z_mn'_int, ↓z_mn'_nils, ↓z_nmC_nil, and_self, ↓z_mn'_sl, ↓z_pg_cons, ↓z_mn_sl, Nat.reduceAdd, true_and, hX]); (try simp only [Int.toNat_natCast, Nat.mul_one, Bool.or_false, Bool.false_or, Bool.or_self, Bool.or_true])
    simp [pgW, purge, mn]
  refine ⟨by omega, by omega, by omega, ?_⟩
  have e2 : pstE acc ps p = chkB acc (ps ++ [p]) := if_pos c0
  refine call_fnL (hC2.inp (by rw [po_app2]; simp)) rfl fun _ => ?_
  (simp -dsimp only [↓z_put, Nat.reduceLT, ↓z_ops_plain, ↓z_assign, ↓evW_tmp, ↓lkW_cons, ↓reduceIte, ↓z_ops_nil, ↓z_seq_nrm, ↓z_seq, ↓z_region, ↓z_move, ↓z_binOp, ↓evW_const, ↓constW_int, inR_i64, Int.reduceNeg, Int.reduceLE, and_self, ↓z_bn_neq, ↓z_cond, ↓z_cnd, ↓z_gdt, ne_eq, ↓z_build, ↓y_ty24, ↓z_blTy_st, ↓y_zr24, ↓z_bld_nil, Nat.reduceEqDiff, ↓z_store, ↓y_sz24, ↓z_cl_oag, List.length_cons, List.length_nil, Nat.zero_add, Nat.reduceAdd, ↓z_store_ptr, ↓lkoW_cons, Nat.reduceLeDiff, ↓spsW_cons, ↓drW_cons, reduceCtorEq, Nat.reduceSub, ↓drW_nil, ↓z_cat_nil_r, ↓z_so_cons, ↓z_put_none, ↓z_ret, ↓z_seq_rt, ↓z_end_rt, resLW, res1W, ↓z_agTy_st, ↓z_frL_cons, ↓z_frL_nil, and_true, ↓z_coeL_cons, ↓z_coeL_nil, ↓z_pack2, D.tup.injEq, List.cons.injEq, ↓z_fr_int, ↓z_coe_int, D.int.injEq, true_and, ↓loadW_ptr, ↓z_rd_t, ↓z_sub_c, ↓z_sub_nil, ↓z_fr_oag, ↓z_frSL_cons, ↓z_frS_int, ↓z_frS_nils, ↓z_frSL_nil, ↓z_coe_oag, ↓z_coeC_cons, ↓z_coeS_int, ↓z_coeS_nils, ↓z_coeC_nil, D.agg.injEq, ↓z_skip, ↓z_load, ↓z_frS_osl, ↓z_frC_app, po_frC, ↓z_frC_int, ↓z_frC_nil, ↓z_coeS_osl, ↓z_allP_app, po_allP, ↓z_allP_cons, ↓z_isP_int, ↓z_allP_nil, List.length_append, po_len, z_ite, Classical.not_not]); (try simp only [Int.toNat_natCast, Nat.mul_one, Bool.or_false, Bool.false_or, Bool.or_self, Bool.or_true])
  unfold pstA pstL
  rw [e2]
  refine ⟨fun c1 => ?_, fun c1 => ?_⟩
  · rw [if_neg c1, if_neg c1]
    exact ⟨by rfl, rfl, rfl⟩
  · rw [if_pos c1, if_pos c1]
    refine ⟨by omega, ?_, c1.symm⟩
    unfold bkN bkC
    rw [if_neg (by simp), po_app2]; simp
theorem po_kd (a b c d e f : Int) : kdM [.int .i64 a, .int .i64 b, .int .i64 c, .int .i64 d, .int .i64 e, .int .i64 f] (List.replicate 6 (K.int .i64)) := rfl
set_option maxRecDepth 100000 in
set_option maxHeartbeats 8000000 in
theorem fn_Same (G : Glob) (a b : Int) (ps qs : List Po) : Fn G Tryd.prog 17 [.agg (bkC a ps), .agg (bkC b qs)] (.bool (decide (a = b ∧ ps = qs))) := by
  unfold bkC
  refine Fn.mk (c := _) Tryd.func17 rfl rfl Tryd.ntmps17 Tryd.results17 ?_
  (simp -dsimp only [bodyW, List.length_cons, List.length_nil, Nat.zero_add, Nat.reduceAdd, Nat.reduceLeDiff, wfL, ↓z_seq, ↓z_region, ↓z_ops_plain, ↓z_box, ↓evW_tmp, ↓z_lk_env, ↓reduceIte, ↓z_cl_agg, ↓z_nmC_cons, ↓z_mn'_int, ↓z_mn'_sl, ↓z_nmC_nil, and_self, ↓z_new, ↓z_nm_nil, Nat.reduceLT, ↓z_pg_env, ↓z_mn_agg, ↓z_pg_env0, ↓z_put, ↓lkW_cons, Nat.reduceEqDiff, reduceCtorEq, ↓z_nm_cons, ↓z_pg_cons, ↓z_mn_ptr, ↓z_pg_nil, ↓z_assign, ↓evW_const, ↓constW_bool, ↓z_ops_nil, ↓z_seq_nrm, ↓z_fieldAddr, ↓y_fl24x0, ↓y_sz3, ne_eq, not_false_eq_true, ↓z_fa_ptr, ↓z_load, ↓y_ty3, ↓z_agTy_int, ↓loadW_ptr, ↓lkoW_cons, ↓z_rd_f, ↓nthW_cons, ↓z_binOp, ↓z_bn_neq, ↓z_move, ↓z_ops_guard, ↓z_grd, ↓z_dst_s, ↓z_dst_0, ↓z_grdD_b, ↓z_gdf, ↓z_gnf, ↓z_gft, ↓z_pick, ↓z_pick_b, ↓z_gnt, ↓z_gff, ↓z_cond, ↓z_cnd, ↓z_gtt, ↓z_ret, ↓z_seq_rt, ↓z_end_rt, resLW, res1W, Bool.not_false, ↓z_coeL_cons, ↓z_coeL_nil, ↓z_pack1, ↓z_coe_bool, D.bool.injEq, true_and, ↓y_fl24x1, ↓y_sz22, ↓y_ty22, ↓z_agTy_sl, Nat.reduceSub, ↓z_callb, ↓z_evL_cons, ↓z_evL_nil, ↓z_len, ↓z_ln_sl, ↓z_gdt, ↓z_skip, ↓constW_int, inR_i64, Int.reduceNeg, Int.reduceLE, ↓z_block, ↓z_loop, z_ite, Classical.not_not])
  intro hd hd2
  have hlp : ps.length ≤ 9223372036854775807 := (hd.2 (.sl 6 ps.length (List.flatMap poC ps)) (by simp)).1.1
  refine ⟨fun c1 => ?_, fun c1 => ⟨fun c2 => ?_, fun c2 => ?_⟩⟩
  · exact (decide_eq_false fun h => c1 h.1).symm
  · exact (decide_eq_false fun h => c2 (by rw [h.2])).symm
  have hlen : ps.length = qs.length := by omega
  refine hold_intro ⟨[], Nat, fun i => ⟨38, 2, [(5, .int .i64 i), (3, .ptr 1 0), (2, .ptr 0 0)], [(1, [.int .i64 b, .sl 6 qs.length (List.flatMap poC qs)]), (0, [.int .i64 a, .sl 6 ps.length (List.flatMap poC ps)])]⟩, fun i => i ≤ ps.length ∧ ps.take i = qs.take i, fun i => ps.length - i, ?_, ?_⟩
  · (simp -dsimp only [↓z_ad_nil, ↓z_wk, ↓z_wkE_cons, ↓lkW_cons, ↓reduceIte, D.int.injEq, true_and, Nat.reduceEqDiff, Nat.zero_add, ↓z_wkE_nil, and_self, and_true, ↓z_wkO_cons, ↓lkoW_cons, reduceCtorEq, ↓z_wkO_nil]); (try simp only [Int.toNat_natCast, Nat.mul_one, Bool.or_false, Bool.false_or, Bool.or_self, Bool.or_true])
    exact ⟨0, by simp⟩
  rintro i ⟨hi, he⟩
  by_cases h : i < ps.length
  · have hl2 := po_len ps
    have hl3 := po_len qs
    have hsub := fun k => po_sub h k
    have hsub2 := fun k => po_sub (show i < qs.length by omega) k
    have hlt : ((i : Int) < (ps.length : Int)) = True := eq_true (by omega)
    (simp -dsimp only [↓z_seq, ↓z_region, ↓z_ops_plain, ↓z_move, ↓evW_tmp, ↓lkW_cons, ↓reduceIte, ↓z_put, Nat.reduceLT, ↓z_fieldAddr, Nat.reduceEqDiff, ↓y_fl24x1, ↓y_sz22, ne_eq, reduceCtorEq, not_false_eq_true, ↓z_fa_ptr, ↓z_load, ↓y_ty22, ↓z_agTy_sl, ↓loadW_ptr, ↓lkoW_cons, ↓z_rd_f, ↓nthW_cons, Nat.zero_add, Nat.reduceSub, ↓z_callb, ↓z_evL_cons, ↓z_evL_nil, ↓z_len, ↓z_ln_sl, ↓z_binOp, ↓z_bn_lss, ↓z_ops_nil, ↓z_seq_nrm, ↓z_cond, ↓z_cnd, ↓z_gdt, hlt, ↓z_skip, ↓z_block, ↓z_region_d, ↓y_mix, true_and])
    refine rgn_q (by decide +kernel) rfl ?_
    (simp -dsimp only [↓z_ops_plain, ↓z_fieldAddr, ↓evW_tmp, ↓lkW_cons, Nat.reduceEqDiff, ↓reduceIte, ↓y_fl24x1, ↓y_sz22, ne_eq, reduceCtorEq, not_false_eq_true, ↓z_fa_ptr, ↓z_put, Nat.reduceLT, ↓z_load, ↓y_ty22, ↓z_agTy_sl, ↓loadW_ptr, ↓lkoW_cons, ↓z_rd_f, ↓nthW_cons, Nat.zero_add, Nat.reduceSub, ↓z_move, ↓z_indexAddr, ↓z_elTy_sl, ↓y_sz26, ↓z_ix_sl, ↓y_ty26, ↓z_agTy_st, ↓loadW_rop, ↓z_rd_t, hl2, ↓hsub, hl3, ↓hsub2, ↓z_binOp, ↓z_bn_aneq, ↓y_fk26, ↓z_ops_nil, ↓z_seq_nrm, ↓z_cond, ↓z_cnd, ↓z_gnt, ↓z_geqf, List.cons.injEq, D.int.injEq, true_and, and_true, ↓z_seq, ↓z_region, ↓z_assign, ↓evW_const, ↓constW_bool, ↓z_ret, ↓z_blk_rt, ↓z_seq_rt, ↓z_lp_rt, ↓z_end_rt, resLW, res1W, ↓z_coeL_cons, ↓z_coeL_nil, ↓z_pack1, ↓z_coe_bool, D.bool.injEq, ↓z_skip, ↓z_blk_nrm, ↓constW_int, inR_i64, Int.reduceNeg, Int.reduceLE, and_self, ↓z_bn_add, ↓wrW_i64, ↓z_lp_nrm, ↓z_wk, ↓z_wkE_cons, ↓z_wkE_nil, ↓z_wkO_cons, ↓z_wkO_nil]); (try simp only [Int.toNat_natCast])
    refine ⟨by omega, by omega, by omega, by omega, by omega, by omega, po_kd .., po_kd .., fun hne => ?_, fun heq => ⟨by omega, i + 1, ⟨by omega, ?_⟩, by omega, by omega⟩⟩
    · exact (decide_eq_false fun e => hne (by obtain ⟨_, e⟩ := e; subst e; simp)).symm
    · rw [takeS (by omega), takeS (by omega), he, po_eq.2 heq]
  · have hlt : ((i : Int) < (ps.length : Int)) = False := eq_false (by omega)
    (simp -dsimp only [↓z_seq, ↓z_region, ↓z_ops_plain, ↓z_move, ↓evW_tmp, ↓lkW_cons, ↓reduceIte, ↓z_put, Nat.reduceLT, ↓z_fieldAddr, Nat.reduceEqDiff, ↓y_fl24x1, ↓y_sz22, ne_eq, reduceCtorEq, not_false_eq_true, ↓z_fa_ptr, ↓z_load, ↓y_ty22, ↓z_agTy_sl, ↓loadW_ptr, ↓lkoW_cons, ↓z_rd_f, ↓nthW_cons, Nat.zero_add, Nat.reduceSub, ↓z_callb, ↓z_evL_cons, ↓z_evL_nil, ↓z_len, ↓z_ln_sl, ↓z_binOp, ↓z_bn_lss, ↓z_ops_nil, ↓z_seq_nrm, ↓z_cond, ↓z_cnd, ↓z_gdt, hlt, ↓z_exit, ↓z_seq_ext, ↓z_lp_ext, ↓z_blk_ext, ↓z_assign, ↓evW_const, ↓constW_bool, ↓z_ret, ↓z_end_rt, resLW, res1W, ↓z_coeL_cons, ↓z_coeL_nil, ↓z_pack1, ↓z_coe_bool, D.bool.injEq, true_and]); (try simp only [Int.toNat_natCast, Nat.mul_one, Bool.or_false, Bool.false_or, Bool.or_self, Bool.or_true])
    rw [List.take_of_length_le (by omega), List.take_of_length_le (by omega)] at he
    exact (decide_eq_true ⟨c1, he⟩).symm
def frE (a b : Int) (ps qs : List Po) : Int := if chkB a ps = 0 then (if chkB b qs = 0 then (if a = b then fkE ps qs else 1) else chkB b qs) else chkB a ps
def frK (a b : Int) (ps qs : List Po) : Int := if chkB a ps = 0 ∧ chkB b qs = 0 ∧ a = b then fkK ps qs else 0
theorem take_getq {ps qs : List Po} {i : Nat} (h : ps.take i = qs.take i) (h1 : i < ps.length) (h2 : i < qs.length) (e : ps[i] = qs[i]) : ps.take (i + 1) = qs.take (i + 1) := by rw [takeS h1, takeS h2, h, e]
theorem fk_n {ps qs : List Po} {k : Nat} (h : fkN ps qs = some k) : fkK ps qs = k ∧ fkE ps qs = 0 := by unfold fkK fkE; rw [h]; exact ⟨rfl, rfl⟩
theorem fk_0 {ps : List Po} : fkK ps ps = 0 ∧ fkE ps ps = 8 := by unfold fkK fkE; rw [fk_self]; exact ⟨rfl, rfl⟩
set_option maxRecDepth 100000 in
set_option maxHeartbeats 8000000 in
theorem fn_Fork (G : Glob) (a b : Int) (ps qs : List Po) : Fn G Tryd.prog 11 [.agg (bkC a ps), .agg (bkC b qs)] (.tup [.int .i64 (frK a b ps qs), .int .i64 (frE a b ps qs)]) := by
  have hC := fn_Check G a ps
  have hD := fn_Check G b qs
  unfold bkC at hC hD ⊢
  unfold frK frE
  refine Fn.mk (c := _) Tryd.func11 rfl rfl Tryd.ntmps11 Tryd.results11 ?_
  (simp -dsimp only [bodyW, List.length_cons, List.length_nil, Nat.zero_add, Nat.reduceAdd, Nat.reduceLeDiff, wfL, ↓z_seq, ↓z_region, ↓z_ops_plain, ↓z_box, ↓evW_tmp, ↓z_lk_env, ↓reduceIte, ↓z_cl_agg, ↓z_nmC_cons, ↓z_mn'_int, ↓z_mn'_sl, ↓z_nmC_nil, and_self, ↓z_new, ↓z_nm_nil, Nat.reduceLT, ↓z_pg_env, ↓z_mn_agg, ↓z_pg_env0, ↓z_put, ↓lkW_cons, Nat.reduceEqDiff, reduceCtorEq, ↓z_nm_cons, ↓z_pg_cons, ↓z_mn_ptr, ↓z_pg_nil, ↓z_assign, ↓evW_const, ↓constW_int, inR_i64, Int.reduceNeg, Int.reduceLE, ↓z_ops_nil, ↓z_seq_nrm, ↓z_load, ↓y_ty24, ↓y_sz24, ↓z_agTy_st, ↓loadW_ptr, ↓lkoW_cons, ↓z_rd_t, ↓z_sub_c, ↓z_sub_nil, ↓z_callv, ↓evW_func, ↓z_evL_cons, ↓z_evL_nil, ↓z_fun0, ↓z_coeL_cons, ↓z_coe_oag, ↓z_coeC_cons, ↓z_coeS_int, ↓z_coeS_sl, ↓z_coeC_nil, ↓z_coeL_nil, true_and])
  intro hd hd2
  refine call_fnL hC rfl fun _ => ?_
  (simp -dsimp only [↓z_put, Nat.reduceLT, ↓z_ops_plain, ↓z_assign, ↓evW_tmp, ↓lkW_cons, ↓reduceIte, ↓z_ops_nil, ↓z_seq_nrm, ↓z_seq, ↓z_region, ↓z_move, ↓z_binOp, ↓evW_const, ↓constW_int, inR_i64, Int.reduceNeg, Int.reduceLE, and_self, ↓z_bn_neq, ↓z_cond, ↓z_cnd, ↓z_gdt, ne_eq, Nat.reduceEqDiff, ↓z_ret, ↓z_seq_rt, ↓z_end_rt, resLW, res1W, Nat.zero_add, ↓z_coeL_cons, Nat.reduceAdd, ↓z_coeL_nil, ↓z_pack2, D.tup.injEq, List.cons.injEq, and_true, ↓z_coe_int, D.int.injEq, true_and, ↓z_skip, ↓z_load, ↓y_ty24, ↓y_sz24, ↓z_agTy_st, ↓loadW_ptr, ↓lkoW_cons, ↓z_rd_t, List.length_cons, List.length_nil, Nat.reduceLeDiff, ↓z_sub_c, ↓z_sub_nil, ↓z_callv, ↓evW_func, ↓z_evL_cons, ↓z_evL_nil, ↓z_fun0, ↓z_coe_oag, ↓z_coeC_cons, ↓z_coeS_int, ↓z_coeS_sl, ↓z_coeC_nil, z_ite, Classical.not_not])
  refine ⟨fun c0 => ⟨by rw [if_neg (fun h => c0 h.1)], by rw [if_neg c0]⟩, fun c0 => ?_⟩
  rw [if_pos c0]
  refine call_fnL hD rfl fun _ => ?_
  (simp -dsimp only [↓z_put, Nat.reduceLT, ↓z_ops_plain, ↓z_assign, ↓evW_tmp, ↓lkW_cons, ↓reduceIte, ↓z_ops_nil, ↓z_seq_nrm, ↓z_seq, ↓z_region, ↓z_move, ↓z_binOp, ↓evW_const, ↓constW_int, inR_i64, Int.reduceNeg, Int.reduceLE, and_self, ↓z_bn_neq, ↓z_cond, ↓z_cnd, ↓z_gdt, ne_eq, Nat.reduceEqDiff, ↓z_ret, ↓z_seq_rt, ↓z_end_rt, resLW, res1W, Nat.zero_add, ↓z_coeL_cons, Nat.reduceAdd, ↓z_coeL_nil, ↓z_pack2, D.tup.injEq, List.cons.injEq, and_true, ↓z_coe_int, D.int.injEq, true_and, ↓z_skip, ↓z_fieldAddr, ↓y_fl24x0, ↓y_sz3, reduceCtorEq, not_false_eq_true, ↓z_fa_ptr, ↓z_load, ↓y_ty3, ↓z_agTy_int, ↓loadW_ptr, ↓lkoW_cons, ↓z_rd_f, ↓nthW_cons, ↓y_fl24x1, ↓y_sz22, ↓y_ty22, ↓z_agTy_sl, Nat.reduceSub, ↓z_callb, ↓z_evL_cons, ↓z_evL_nil, ↓z_len, ↓z_ln_sl, ↓z_block, ↓z_loop, z_ite, Classical.not_not])
  refine ⟨fun c1 => ⟨by rw [if_neg (fun h => c1 h.2.1)], by rw [if_neg c1]⟩, fun c1 => ?_⟩
  rw [if_pos c1]
  have h1 := (chkB_ok c0).len
  have h2 := (chkB_ok c1).len
  refine ⟨fun c2 => ⟨by rw [if_neg (fun h => c2 h.2.2)], by rw [if_neg c2]⟩, fun c2 => ?_⟩
  rw [if_pos ⟨c0, c1, c2⟩, if_pos c2]
  refine hold_intro ⟨[], Nat, fun i => ⟨59, 2, [(28, .int .i64 i), (27, .int .i64 ps.length), (26, .sl 6 ps.length (List.flatMap poC ps)), (3, .ptr 1 0), (2, .ptr 0 0), (4, .int .i64 0), (5, .int .i64 0)], [(1, [.int .i64 b, .sl 6 qs.length (List.flatMap poC qs)]), (0, [.int .i64 a, .sl 6 ps.length (List.flatMap poC ps)])]⟩, fun i => i ≤ ps.length ∧ i ≤ qs.length ∧ ps.take i = qs.take i, fun i => ps.length - i, ?_, ?_⟩
  · (simp -dsimp only [↓z_ad_nil, ↓z_wk, ↓z_wkE_cons, ↓lkW_cons, ↓reduceIte, D.int.injEq, true_and, Nat.reduceEqDiff, Nat.zero_add, ↓z_wkE_nil, and_self, and_true, ↓z_wkO_cons, ↓lkoW_cons, reduceCtorEq, ↓z_wkO_nil]); (try simp only [Int.toNat_natCast, Nat.mul_one, Bool.or_false, Bool.false_or, Bool.or_self, Bool.or_true])
    exact ⟨0, ⟨by omega, by omega, by simp⟩, by omega⟩
  rintro i ⟨hi, hj, he⟩
  by_cases h : i < ps.length
  · have hl2 := po_len ps
    have hl3 := po_len qs
    have hsub := fun k => po_sub h k
    have hlt : ((i : Int) < (ps.length : Int)) = True := eq_true (by omega)
    (simp -dsimp only [↓z_seq, ↓z_region, ↓z_ops_plain, ↓z_binOp, ↓evW_tmp, ↓lkW_cons, ↓reduceIte, Nat.reduceEqDiff, ↓z_bn_lss, ↓z_put, Nat.reduceLT, ↓z_ops_nil, ↓z_seq_nrm, ↓z_cond, ↓z_cnd, ↓z_gdt, hlt, ↓z_skip, ↓z_block, ↓z_move, ↓z_indexAddr, ↓y_ty22, ↓z_elTy_sl, ↓y_sz26, ↓z_ix_sl, ↓z_load, ↓y_ty26, ↓z_agTy_st, ↓loadW_rop, ↓z_rd_t, hl2, ↓hsub, ↓z_alloc, ↓y_zr26, ↓z_new, ↓z_nm_cons, ↓z_nmC_cons, ↓z_mn'_int, ↓z_mn'_sl, ↓z_nmC_nil, and_self, ↓z_nm_nil, ↓z_pg_cons, ↓z_mn_agg, ↓z_mn_rop, ↓z_mn_int, ↓z_mn_bool, ↓z_mn_sl, ↓z_mn_ptr, reduceCtorEq, ↓z_pg_nil, ↓z_assign, ↓z_store, ↓z_cl_agg, List.length_cons, List.length_nil, Nat.zero_add, Nat.reduceAdd, ↓z_store_ptr, ↓lkoW_cons, Nat.reduceLeDiff, ↓spsW_cons, ↓drW_cons, Nat.reduceSub, ↓drW_nil, ↓z_cat_nil_r, ↓z_so_cons, ↓z_put_none, ↓z_region_d, ↓y_mix, true_and]); (try simp only [Int.toNat_natCast])
    refine ⟨by omega, by omega, rgn_q (by decide +kernel) rfl ?_⟩
    by_cases g : i = qs.length
    · have hq : ((i : Int) = (qs.length : Int)) = True := eq_true (by omega)
      (simp -dsimp only [↓z_ops_plain, ↓z_move, ↓evW_tmp, ↓lkW_cons, ↓reduceIte, ↓z_put, Nat.reduceLT, ↓z_fieldAddr, Nat.reduceEqDiff, ↓y_fl24x1, ↓y_sz22, ne_eq, reduceCtorEq, not_false_eq_true, ↓z_fa_ptr, ↓z_load, ↓y_ty22, ↓z_agTy_sl, ↓loadW_ptr, ↓lkoW_cons, ↓z_rd_f, ↓nthW_cons, Nat.zero_add, Nat.reduceSub, ↓z_callb, ↓z_evL_cons, ↓z_evL_nil, ↓z_len, ↓z_ln_sl, ↓z_binOp, ↓z_bn_eql, ↓z_ops_guard, ↓z_grd, ↓z_dst_s, ↓z_dst_0, ↓z_grdD_b, ↓z_gdf, hq, ↓z_gnf, ↓z_gft, ↓z_pick, ↓z_pick_b, ↓z_gnt, ↓z_gff, ↓evW_const, ↓constW_bool, ↓z_ops_nil, ↓z_seq_nrm, ↓z_cond, ↓z_cnd, ↓z_gtt, ↓z_seq, ↓z_region, ↓z_assign, ↓constW_int, inR_i64, Int.reduceNeg, Int.reduceLE, and_self, ↓z_ret, ↓z_blk_rt, ↓z_seq_rt, ↓z_lp_rt, ↓z_end_rt, resLW, res1W, Bool.not_false, ↓z_coeL_cons, Nat.reduceAdd, ↓z_coeL_nil, ↓z_pack2, D.tup.injEq, List.cons.injEq, and_true, ↓z_coe_int, D.int.injEq, true_and]); (try simp only [Int.toNat_natCast, Nat.mul_one, Bool.or_false, Bool.false_or, Bool.or_self, Bool.or_true])
      have e := fk_n (fk_at he (by omega) (by omega) (by rw [List.getElem?_eq_getElem h, List.getElem?_eq_none (by omega)]; simp))
      exact ⟨e.1.symm, e.2.symm⟩
    · have hsub2 := fun k => po_sub (show i < qs.length by omega) k
      have hq : ((i : Int) = (qs.length : Int)) = False := eq_false (by omega)
      (simp -dsimp only [↓z_ops_plain, ↓z_move, ↓evW_tmp, ↓lkW_cons, ↓reduceIte, ↓z_put, Nat.reduceLT, ↓z_fieldAddr, Nat.reduceEqDiff, ↓y_fl24x1, ↓y_sz22, ne_eq, reduceCtorEq, not_false_eq_true, ↓z_fa_ptr, ↓z_load, ↓y_ty22, ↓z_agTy_sl, ↓loadW_ptr, ↓lkoW_cons, ↓z_rd_f, ↓nthW_cons, Nat.zero_add, Nat.reduceSub, ↓z_callb, ↓z_evL_cons, ↓z_evL_nil, ↓z_len, ↓z_ln_sl, ↓z_binOp, ↓z_bn_eql, ↓z_ops_guard, ↓z_grd, ↓z_dst_s, ↓z_dst_0, ↓z_grdD_b, ↓z_gdf, hq, ↓y_ty26, ↓y_sz26, ↓z_agTy_st, ↓z_rd_t, List.length_cons, List.length_nil, Nat.reduceAdd, Nat.reduceLeDiff, ↓z_sub_c, ↓z_sub_nil, ↓z_gff, ↓z_indexAddr, ↓z_elTy_sl, ↓z_ix_sl, ↓loadW_rop, hl3, ↓hsub2, ↓z_bn_oneq, ↓z_allP_cons, ↓z_isP_int, ↓z_allP_nil, and_self, ↓y_fk26, ↓z_pick, ↓z_pick_b, ↓z_gft, ↓z_ops_nil, ↓z_seq_nrm, ↓z_cond, ↓z_cnd, ↓z_gnt, ↓z_geqf, List.cons.injEq, D.int.injEq, true_and, and_true, ↓z_seq, ↓z_region, ↓z_assign, ↓evW_const, ↓constW_int, inR_i64, Int.reduceNeg, Int.reduceLE, ↓z_ret, ↓z_blk_rt, ↓z_seq_rt, ↓z_lp_rt, ↓z_end_rt, resLW, res1W, ↓z_coeL_cons, ↓z_coeL_nil, ↓z_pack2, D.tup.injEq, ↓z_coe_int, ↓z_skip, ↓z_blk_nrm, ↓z_bn_add, ↓wrW_i64, ↓z_lp_nrm, ↓z_wk, ↓z_wkE_cons, ↓z_wkE_nil, ↓z_wkO_cons, ↓z_wkO_nil]); (try simp only [Int.toNat_natCast])
      refine ⟨by omega, by omega, by omega, po_kd .., po_kd .., fun hne => ?_, fun heq => ⟨by omega, i + 1, ⟨by omega, by omega, take_getq he (by omega) (by omega) (po_eq.2 heq)⟩, by omega, by omega⟩⟩
      have e := fk_n (fk_at he (by omega) (by omega) (by rw [List.getElem?_eq_getElem h, List.getElem?_eq_getElem (show i < qs.length by omega)]; exact fun e => hne (po_eq.1 (Option.some.inj e))))
      exact ⟨e.1.symm, e.2.symm⟩
  · have hlt : ((i : Int) < (ps.length : Int)) = False := eq_false (by omega)
    (simp -dsimp only [↓z_seq, ↓z_region, ↓z_ops_plain, ↓z_binOp, ↓evW_tmp, ↓lkW_cons, ↓reduceIte, Nat.reduceEqDiff, ↓z_bn_lss, ↓z_put, Nat.reduceLT, ↓z_ops_nil, ↓z_seq_nrm, ↓z_cond, ↓z_cnd, ↓z_gdt, hlt, ↓z_exit, ↓z_seq_ext, ↓z_lp_ext, ↓z_blk_ext, ↓z_fieldAddr, ↓y_fl24x1, ↓y_sz22, ne_eq, reduceCtorEq, not_false_eq_true, ↓z_fa_ptr, ↓z_load, ↓y_ty22, ↓z_agTy_sl, ↓loadW_ptr, ↓lkoW_cons, ↓z_rd_f, ↓nthW_cons, Nat.zero_add, Nat.reduceSub, ↓z_callb, ↓z_evL_cons, ↓z_evL_nil, ↓z_len, ↓z_ln_sl, ↓z_bn_gtr, ↓z_assign, ↓evW_const, ↓constW_int, inR_i64, Int.reduceNeg, Int.reduceLE, and_self, ↓z_ret, ↓z_seq_rt, ↓z_end_rt, resLW, res1W, ↓z_coeL_cons, ↓z_coeL_nil, ↓z_pack2, D.tup.injEq, List.cons.injEq, and_true, ↓z_coe_int, D.int.injEq, true_and, ↓z_skip, z_ite]); (try simp only [Int.toNat_natCast, Nat.mul_one, Bool.or_false, Bool.false_or, Bool.or_self, Bool.or_true])
    have ei : i = ps.length := by omega
    subst ei
    refine ⟨fun g => ?_, fun g => ?_⟩
    · have e := fk_n (fk_at he (by omega) (by omega) (by rw [List.getElem?_eq_none (by omega), List.getElem?_eq_getElem (show ps.length < qs.length by omega)]; simp))
      exact ⟨e.1.symm, e.2.symm⟩
    · rw [List.take_of_length_le (by omega), List.take_of_length_le (by omega)] at he
      subst he
      exact ⟨fk_0.1.symm, fk_0.2.symm⟩
set_option maxRecDepth 100000 in
set_option maxHeartbeats 8000000 in
theorem fn_refFork (G : Glob) (a b : Int) (ps qs : List Po) : Fn G Tryd.prog 12 [.agg (bkC a ps), .agg (bkC b qs)] (.agg [.int .i64 (frK a b ps qs), .int .i64 (frE a b ps qs)]) := by
  have hC := fn_refCheck G a ps
  have hD := fn_refCheck G b qs
  unfold bkC at hC hD ⊢
  unfold frK frE
  refine Fn.mk (c := _) Tryd.func12 rfl rfl Tryd.ntmps12 Tryd.results12 ?_
  (simp -dsimp only [bodyW, List.length_cons, List.length_nil, Nat.zero_add, Nat.reduceAdd, Nat.reduceLeDiff, wfL, ↓z_seq, ↓z_region, ↓z_ops_plain, ↓z_box, ↓evW_tmp, ↓z_lk_env, ↓reduceIte, ↓z_cl_agg, ↓z_nmC_cons, ↓z_mn'_int, ↓z_mn'_sl, ↓z_nmC_nil, and_self, ↓z_new, ↓z_nm_nil, Nat.reduceLT, ↓z_pg_env, ↓z_mn_agg, ↓z_pg_env0, ↓z_put, ↓lkW_cons, Nat.reduceEqDiff, reduceCtorEq, ↓z_nm_cons, ↓z_pg_cons, ↓z_mn_ptr, ↓z_pg_nil, ↓z_alloc, ↓y_zr37, ↓z_ops_nil, ↓z_seq_nrm, ↓z_load, ↓y_ty24, ↓y_sz24, ↓z_agTy_st, ↓loadW_ptr, ↓lkoW_cons, ↓z_rd_t, ↓z_sub_c, ↓z_sub_nil, ↓z_callv, ↓evW_func, ↓z_evL_cons, ↓z_evL_nil, ↓z_fun0, ↓z_coeL_cons, ↓z_coe_oag, ↓z_coeC_cons, ↓z_coeS_int, ↓z_coeS_sl, ↓z_coeC_nil, ↓z_coeL_nil, true_and])
  intro hd hd2
  refine call_fnL hC rfl fun _ => ?_
  (simp -dsimp only [↓z_put, Nat.reduceLT, ↓z_ops_plain, ↓z_assign, ↓evW_tmp, ↓lkW_cons, ↓reduceIte, ↓z_ops_nil, ↓z_seq_nrm, ↓z_seq, ↓z_region, ↓z_move, ↓z_binOp, ↓evW_const, ↓constW_int, inR_i64, Int.reduceNeg, Int.reduceLE, and_self, ↓z_bn_neq, ↓z_cond, ↓z_cnd, ↓z_gdt, ne_eq, Nat.reduceEqDiff, ↓z_build, ↓y_ty37, ↓z_blTy_st, ↓y_zr37, ↓z_bld_cons, ↓y_fl37x1, ↓y_sz28, ↓z_cl_int, List.length_cons, List.length_nil, Nat.zero_add, Nat.reduceAdd, Nat.reduceLeDiff, ↓spsW_cons, reduceCtorEq, Nat.reduceSub, ↓drW_cons, ↓drW_nil, ↓z_cat_nil_r, ↓z_bld_nil, ↓z_store, ↓y_sz37, ↓z_cl_oag, ↓z_store_ptr, ↓lkoW_cons, ↓z_so_cons, ↓z_put_none, ↓z_ret, ↓z_seq_rt, ↓z_end_rt, resLW, res1W, ↓z_agTy_st, ↓z_coeL_cons, ↓z_coeL_nil, ↓z_pack1, ↓loadW_ptr, ↓z_rd_t, ↓z_sub_c, ↓z_sub_nil, ↓z_coe_oag, ↓z_coeC_cons, ↓z_coeS_int, ↓z_coeC_nil, D.agg.injEq, List.cons.injEq, D.int.injEq, true_and, and_true, ↓z_skip, ↓z_load, ↓y_ty24, ↓y_sz24, ↓z_callv, ↓evW_func, ↓z_evL_cons, ↓z_evL_nil, ↓z_fun0, ↓z_coeS_sl, z_ite, Classical.not_not])
  refine ⟨fun c0 => ⟨by rfl, by rw [if_neg (fun h => c0 h.1)], by rw [if_neg c0]⟩, fun c0 => ?_⟩
  rw [if_pos c0]
  refine call_fnL hD rfl fun _ => ?_
  (simp -dsimp only [↓z_put, Nat.reduceLT, ↓z_ops_plain, ↓z_assign, ↓evW_tmp, ↓lkW_cons, ↓reduceIte, ↓z_ops_nil, ↓z_seq_nrm, ↓z_seq, ↓z_region, ↓z_move, ↓z_binOp, ↓evW_const, ↓constW_int, inR_i64, Int.reduceNeg, Int.reduceLE, and_self, ↓z_bn_neq, ↓z_cond, ↓z_cnd, ↓z_gdt, ne_eq, Nat.reduceEqDiff, ↓z_build, ↓y_ty37, ↓z_blTy_st, ↓y_zr37, ↓z_bld_cons, ↓y_fl37x1, ↓y_sz28, ↓z_cl_int, List.length_cons, List.length_nil, Nat.zero_add, Nat.reduceAdd, Nat.reduceLeDiff, ↓spsW_cons, reduceCtorEq, Nat.reduceSub, ↓drW_cons, ↓drW_nil, ↓z_cat_nil_r, ↓z_bld_nil, ↓z_store, ↓y_sz37, ↓z_cl_oag, ↓z_store_ptr, ↓lkoW_cons, ↓z_so_cons, ↓z_put_none, ↓z_ret, ↓z_seq_rt, ↓z_end_rt, resLW, res1W, ↓z_agTy_st, ↓z_coeL_cons, ↓z_coeL_nil, ↓z_pack1, ↓loadW_ptr, ↓z_rd_t, ↓z_sub_c, ↓z_sub_nil, ↓z_coe_oag, ↓z_coeC_cons, ↓z_coeS_int, ↓z_coeC_nil, D.agg.injEq, List.cons.injEq, D.int.injEq, true_and, and_true, ↓z_skip, ↓z_fieldAddr, ↓y_fl24x0, ↓y_sz3, not_false_eq_true, ↓z_fa_ptr, ↓z_load, ↓y_ty3, ↓z_agTy_int, ↓z_rd_f, ↓nthW_cons, ↓z_block, ↓z_loop, z_ite, Classical.not_not])
  refine ⟨fun c1 => ⟨by rfl, by rw [if_neg (fun h => c1 h.2.1)], by rw [if_neg c1]⟩, fun c1 => ?_⟩
  rw [if_pos c1]
  have h1 := (chkB_ok c0).len
  have h2 := (chkB_ok c1).len
  refine ⟨fun c2 => ⟨by rfl, by rw [if_neg (fun h => c2 h.2.2)], by rw [if_neg c2]⟩, fun c2 => ?_⟩
  rw [if_pos ⟨c0, c1, c2⟩, if_pos c2]
  refine hold_intro ⟨[], Nat, fun i => ⟨67, 3, [(6, .int .i64 i), (4, .ptr 2 0), (3, .ptr 1 0), (2, .ptr 0 0)], [(2, [.int .i64 0, .int .i64 0]), (1, [.int .i64 b, .sl 6 qs.length (List.flatMap poC qs)]), (0, [.int .i64 a, .sl 6 ps.length (List.flatMap poC ps)])]⟩, fun i => i ≤ ps.length ∧ i ≤ qs.length ∧ ps.take i = qs.take i, fun i => ps.length - i, ?_, ?_⟩
  · (simp -dsimp only [↓z_ad_nil, ↓z_wk, ↓z_wkE_cons, ↓lkW_cons, ↓reduceIte, D.int.injEq, true_and, Nat.reduceEqDiff, Nat.zero_add, Nat.reduceAdd, ↓z_wkE_nil, and_self, and_true, ↓z_wkO_cons, ↓lkoW_cons, reduceCtorEq, ↓z_wkO_nil]); (try simp only [Int.toNat_natCast, Nat.mul_one, Bool.or_false, Bool.false_or, Bool.or_self, Bool.or_true])
    exact ⟨0, ⟨by omega, by omega, by simp⟩, by omega⟩
  rintro i ⟨hi, hj, he⟩
  have hl2 := po_len ps
  have hl3 := po_len qs
  by_cases h : i < ps.length
  · have hsub := fun k => po_sub h k
    have hlt : ((i : Int) < (ps.length : Int)) = True := eq_true (by omega)
    have hge : ((ps.length : Int) ≤ (i : Int)) = False := eq_false (by omega)
    (simp -dsimp only [↓z_seq, ↓z_region, ↓z_ops_plain, ↓z_move, ↓evW_tmp, ↓lkW_cons, ↓reduceIte, ↓z_put, Nat.reduceLT, ↓z_fieldAddr, Nat.reduceEqDiff, ↓y_fl24x1, ↓y_sz22, ne_eq, reduceCtorEq, not_false_eq_true, ↓z_fa_ptr, ↓z_load, ↓y_ty22, ↓z_agTy_sl, ↓loadW_ptr, ↓lkoW_cons, ↓z_rd_f, ↓nthW_cons, Nat.zero_add, Nat.reduceSub, ↓z_callb, ↓z_evL_cons, ↓z_evL_nil, ↓z_len, ↓z_ln_sl, ↓z_binOp, ↓z_bn_lss, ↓z_ops_guard, ↓z_grd, ↓z_dst_s, ↓z_dst_0, ↓z_grdD_b, ↓z_gdf, hlt, ↓z_gnf, ↓z_gft, ↓z_pick, ↓z_pick_b, ↓z_gnt, ↓z_gff, ↓evW_const, ↓constW_bool, ↓z_ops_nil, ↓z_seq_nrm, ↓z_cond, ↓z_cnd, ↓z_gtt, ↓z_skip, ↓z_block, ↓z_region_d, ↓y_mix, true_and]); (try simp only [Int.toNat_natCast, Nat.mul_one, Bool.or_false, Bool.false_or, Bool.or_self, Bool.or_true])
    refine rgn_q (by decide +kernel) rfl ?_
    by_cases g : i = qs.length
    · have hq : ((qs.length : Int) ≤ (i : Int)) = True := eq_true (by omega)
      (simp -dsimp only [↓z_ops_plain, ↓z_move, ↓evW_tmp, ↓lkW_cons, Nat.reduceEqDiff, ↓reduceIte, ↓z_put, Nat.reduceLT, ↓z_fieldAddr, ↓y_fl24x1, ↓y_sz22, ne_eq, reduceCtorEq, not_false_eq_true, ↓z_fa_ptr, ↓z_load, ↓y_ty22, ↓z_agTy_sl, ↓loadW_ptr, ↓lkoW_cons, ↓z_rd_f, ↓nthW_cons, Nat.zero_add, Nat.reduceSub, ↓z_callb, ↓z_evL_cons, ↓z_evL_nil, ↓z_len, ↓z_ln_sl, ↓z_binOp, ↓z_bn_geq, ↓z_ops_guard, ↓z_grd, ↓z_dst_s, ↓z_dst_0, ↓z_grdD_b, ↓z_gdf, hge, ↓z_gff, ↓z_pick, ↓z_pick_b, ↓z_gft, hq, ↓z_gnf, ↓z_gnt, ↓evW_const, ↓constW_bool, ↓z_ops_nil, ↓z_seq_nrm, ↓z_cond, ↓z_cnd, ↓z_gtt, ↓z_seq, ↓z_region, ↓z_build, ↓y_ty37, ↓z_blTy_st, ↓y_zr37, ↓z_bld_cons, ↓y_fl37x0, ↓y_sz3, ↓z_cl_int, List.length_cons, List.length_nil, Nat.reduceAdd, Nat.reduceLeDiff, ↓spsW_cons, ↓drW_cons, ↓catW_cons, ↓catW_nil, ↓z_bld_nil, ↓z_store, ↓y_sz37, ↓z_cl_oag, ↓z_store_ptr, ↓drW_nil, ↓z_cat_nil_r, ↓z_so_cons, ↓z_put_none, ↓z_ret, ↓z_blk_rt, ↓z_seq_rt, ↓z_lp_rt, ↓z_end_rt, resLW, res1W, Bool.not_false, ↓z_agTy_st, ↓z_coeL_cons, ↓z_coeL_nil, ↓z_pack1, ↓z_rd_t, ↓z_sub_c, ↓z_sub_nil, ↓z_coe_oag, ↓z_coeC_cons, ↓z_coeS_int, ↓z_coeC_nil, D.agg.injEq, List.cons.injEq, D.int.injEq, true_and, and_true]); (try simp only [Int.toNat_natCast, Nat.mul_one, Bool.or_false, Bool.false_or, Bool.or_self, Bool.or_true])
      have e := fk_n (fk_at he (by omega) (by omega) (by rw [List.getElem?_eq_getElem h, List.getElem?_eq_none (by omega)]; simp))
      exact ⟨by rfl, e.1.symm, e.2.symm⟩
    · have hsub2 := fun k => po_sub (show i < qs.length by omega) k
      have hq : ((qs.length : Int) ≤ (i : Int)) = False := eq_false (by omega)
      (simp -dsimp only [↓z_ops_plain, ↓z_move, ↓evW_tmp, ↓lkW_cons, Nat.reduceEqDiff, ↓reduceIte, ↓z_put, Nat.reduceLT, ↓z_fieldAddr, ↓y_fl24x1, ↓y_sz22, ne_eq, reduceCtorEq, not_false_eq_true, ↓z_fa_ptr, ↓z_load, ↓y_ty22, ↓z_agTy_sl, ↓loadW_ptr, ↓lkoW_cons, ↓z_rd_f, ↓nthW_cons, Nat.zero_add, Nat.reduceSub, ↓z_callb, ↓z_evL_cons, ↓z_evL_nil, ↓z_len, ↓z_ln_sl, ↓z_binOp, ↓z_bn_geq, ↓z_ops_guard, ↓z_grd, ↓z_dst_s, ↓z_dst_0, ↓z_grdD_b, ↓z_gdf, hge, ↓z_gff, ↓z_pick, ↓z_pick_b, ↓z_gft, hq, ↓z_indexAddr, ↓z_elTy_sl, ↓y_sz26, ↓z_ix_sl, ↓y_ty26, ↓z_agTy_st, ↓loadW_rop, ↓z_rd_t, hl2, ↓hsub, hl3, ↓hsub2, ↓z_bn_aneq, ↓y_fk26, ↓z_ops_nil, ↓z_seq_nrm, ↓z_cond, ↓z_cnd, ↓z_gnt, ↓z_geqf, List.cons.injEq, D.int.injEq, true_and, and_true, ↓z_seq, ↓z_region, ↓z_build, ↓y_ty37, ↓z_blTy_st, ↓y_zr37, ↓z_bld_cons, ↓y_fl37x0, ↓y_sz3, ↓z_cl_int, List.length_cons, List.length_nil, Nat.reduceAdd, Nat.reduceLeDiff, ↓spsW_cons, ↓drW_cons, ↓catW_cons, ↓catW_nil, ↓z_bld_nil, ↓z_store, ↓y_sz37, ↓z_cl_oag, ↓z_store_ptr, ↓drW_nil, ↓z_cat_nil_r, ↓z_so_cons, ↓z_put_none, ↓z_ret, ↓z_blk_rt, ↓z_seq_rt, ↓z_lp_rt, ↓z_end_rt, resLW, res1W, Bool.not_false, ↓z_coeL_cons, ↓z_coeL_nil, ↓z_pack1, ↓z_sub_c, ↓z_sub_nil, ↓z_coe_oag, ↓z_coeC_cons, ↓z_coeS_int, ↓z_coeC_nil, D.agg.injEq, ↓z_skip, ↓z_blk_nrm, ↓evW_const, ↓constW_int, inR_i64, Int.reduceNeg, Int.reduceLE, and_self, ↓z_bn_add, ↓wrW_i64, ↓z_assign, ↓z_lp_nrm, ↓z_wk, ↓z_wkE_cons, ↓z_wkE_nil, ↓z_wkO_cons, ↓z_wkO_nil]); (try simp only [Int.toNat_natCast])
      refine ⟨by omega, by omega, by omega, by omega, by omega, by omega, po_kd .., po_kd .., fun hne => ?_, fun heq => ⟨by omega, i + 1, ⟨by omega, by omega, take_getq he (by omega) (by omega) (po_eq.2 heq)⟩, by omega, by omega⟩⟩
      have e := fk_n (fk_at he (by omega) (by omega) (by rw [List.getElem?_eq_getElem h, List.getElem?_eq_getElem (show i < qs.length by omega)]; exact fun e => hne (po_eq.1 (Option.some.inj e))))
      exact ⟨by rfl, e.1.symm, e.2.symm⟩
  · have hlt : ((i : Int) < (ps.length : Int)) = False := eq_false (by omega)
    have hge : ((ps.length : Int) ≤ (i : Int)) = True := eq_true (by omega)
    (simp -dsimp only [↓z_seq, ↓z_region, ↓z_ops_plain, ↓z_move, ↓evW_tmp, ↓lkW_cons, ↓reduceIte, ↓z_put, Nat.reduceLT, ↓z_fieldAddr, Nat.reduceEqDiff, ↓y_fl24x1, ↓y_sz22, ne_eq, reduceCtorEq, not_false_eq_true, ↓z_fa_ptr, ↓z_load, ↓y_ty22, ↓z_agTy_sl, ↓loadW_ptr, ↓lkoW_cons, ↓z_rd_f, ↓nthW_cons, Nat.zero_add, Nat.reduceSub, ↓z_callb, ↓z_evL_cons, ↓z_evL_nil, ↓z_len, ↓z_ln_sl, ↓z_binOp, ↓z_bn_lss, ↓z_ops_guard, ↓z_grd, ↓z_dst_s, ↓z_dst_0, ↓z_grdD_b, ↓z_gdf, hlt, ↓z_gff, ↓z_pick, ↓z_pick_b, ↓z_gft, ↓z_ops_nil, ↓z_seq_nrm, ↓z_cond, ↓z_cnd, ↓z_gdt, ↓z_skip, ↓z_block, ↓z_region_d, ↓y_mix, true_and, ↓z_exit, ↓z_seq_ext, ↓z_lp_ext, ↓z_blk_ext, ↓z_build, ↓y_ty37, ↓z_blTy_st, ↓y_zr37, ↓z_bld_cons, ↓y_fl37x1, ↓y_sz28, ↓evW_const, ↓constW_int, inR_i64, Int.reduceNeg, Int.reduceLE, and_self, ↓z_cl_int, List.length_cons, List.length_nil, Nat.reduceAdd, Nat.reduceLeDiff, ↓spsW_cons, ↓drW_cons, ↓drW_nil, ↓z_cat_nil_r, ↓z_bld_nil, ↓z_store, ↓y_sz37, ↓z_cl_oag, ↓z_store_ptr, ↓z_so_cons, ↓z_put_none, ↓z_ret, ↓z_end_rt, resLW, res1W, ↓z_agTy_st, ↓z_coeL_cons, ↓z_coeL_nil, ↓z_pack1, ↓z_rd_t, ↓z_sub_c, ↓z_sub_nil, ↓z_coe_oag, ↓z_coeC_cons, ↓z_coeS_int, ↓z_coeC_nil, D.agg.injEq, List.cons.injEq, D.int.injEq, and_true, z_ite]); (try simp only [Int.toNat_natCast, Nat.mul_one, Bool.or_false, Bool.false_or, Bool.or_self, Bool.or_true])
    refine ⟨fun g => rgn_q (by decide +kernel) rfl ?_, fun g => ?_⟩
    · (simp -dsimp only [↓z_ops_plain, ↓z_move, ↓evW_tmp, ↓lkW_cons, Nat.reduceEqDiff, ↓reduceIte, ↓z_put, Nat.reduceLT, ↓z_fieldAddr, ↓y_fl24x1, ↓y_sz22, ne_eq, reduceCtorEq, not_false_eq_true, ↓z_fa_ptr, ↓z_load, ↓y_ty22, ↓z_agTy_sl, ↓loadW_ptr, ↓lkoW_cons, ↓z_rd_f, ↓nthW_cons, Nat.zero_add, Nat.reduceSub, ↓z_callb, ↓z_evL_cons, ↓z_evL_nil, ↓z_len, ↓z_ln_sl, ↓z_binOp, ↓z_bn_geq, ↓z_ops_guard, ↓z_grd, ↓z_dst_s, ↓z_dst_0, ↓z_grdD_b, ↓z_gdf, hge, ↓z_gnf, ↓z_gft, ↓z_pick, ↓z_pick_b, ↓z_gnt, ↓z_gff, ↓evW_const, ↓constW_bool, ↓z_gtf, ↓z_ops_nil, ↓z_seq_nrm, ↓z_cond, ↓z_cnd, ↓z_gtt, ↓z_seq, ↓z_region, ↓z_build, ↓y_ty37, ↓z_blTy_st, ↓y_zr37, ↓z_bld_cons, ↓y_fl37x0, ↓y_sz3, ↓z_cl_int, List.length_cons, List.length_nil, Nat.reduceAdd, Nat.reduceLeDiff, ↓spsW_cons, ↓drW_cons, ↓catW_cons, ↓catW_nil, ↓z_bld_nil, ↓z_store, ↓y_sz37, ↓z_cl_oag, ↓z_store_ptr, ↓drW_nil, ↓z_cat_nil_r, ↓z_so_cons, ↓z_put_none, ↓z_ret, ↓z_blk_rt, ↓z_seq_rt, ↓z_lp_rt, ↓z_end_rt, resLW, res1W, Bool.not_false, ↓z_agTy_st, ↓z_coeL_cons, ↓z_coeL_nil, ↓z_pack1, ↓z_rd_t, ↓z_sub_c, ↓z_sub_nil, ↓z_coe_oag, ↓z_coeC_cons, ↓z_coeS_int, ↓z_coeC_nil, D.agg.injEq, List.cons.injEq, D.int.injEq, true_and, and_true]); (try simp only [Int.toNat_natCast, Nat.mul_one, Bool.or_false, Bool.false_or, Bool.or_self, Bool.or_true])
      have e := fk_n (fk_at he (by omega) (by omega) (by rw [List.getElem?_eq_none (by omega), List.getElem?_eq_getElem (show i < qs.length by omega)]; simp))
      exact ⟨by rfl, e.1.symm, e.2.symm⟩
    · rw [List.take_of_length_le (by omega), List.take_of_length_le (by omega)] at he
      subst he
      exact ⟨by rfl, fk_0.1.symm, fk_0.2.symm⟩
set_option maxRecDepth 100000 in
set_option maxHeartbeats 4000000 in
theorem fn_refPost (G : Glob) (acc : Int) (ps : List Po) (p : Po) : FnF G Tryd.prog 10 [.agg (bkC acc ps), .agg (poC p)] (.agg (bkC (pstA acc ps p) (pstL acc ps p) ++ [.int .i64 (pstE acc ps p)])) := by
  have hw : DW (.agg (bkN (pstA acc ps p) (pstL acc ps p) ++ [.int .i64 (pstE acc ps p)])) (.agg (bkC (pstA acc ps p) (pstL acc ps p) ++ [.int .i64 (pstE acc ps p)])) := by
    unfold bkN
    split
    · rename_i e; rw [e]; exact .agg (.cons (.refl _) (.cons (.nils 6) (.cons (.refl _) .nil)))
    · exact .refl _
  refine FnF.outW ?_ hw
  have hC := fn_refCheck G acc ps
  have hC2 := fn_refCheck G acc (ps ++ [p])
  unfold bkC at hC hC2 ⊢
  rw [show poC p = [.int .i64 p.d, .int .i64 p.c, .int .i64 p.a, .int .i64 p.t, .int .i64 p.w, .int .i64 p.r] from rfl]
  refine FnF.mk (c := _) Tryd.func10 rfl rfl Tryd.ntmps10 Tryd.results10 ?_
  (simp -dsimp only [bodyW, List.length_cons, List.length_nil, Nat.zero_add, Nat.reduceAdd, Nat.reduceLeDiff, wfL, ↓z_seq, ↓z_region, ↓z_ops_plain, ↓z_box, ↓evW_tmp, ↓z_lk_env, ↓reduceIte, ↓z_cl_agg, ↓z_nmC_cons, ↓z_mn'_int, ↓z_mn'_sl, ↓z_nmC_nil, and_self, ↓z_new, ↓z_nm_nil, Nat.reduceLT, ↓z_pg_env, ↓z_mn_agg, ↓z_pg_env0, ↓z_put, ↓lkW_cons, Nat.reduceEqDiff, reduceCtorEq, ↓z_nm_cons, ↓z_pg_cons, ↓z_mn_ptr, ↓z_pg_nil, ↓z_alloc, ↓y_zr32, ↓z_ops_nil, ↓z_seq_nrm, ↓z_load, ↓y_ty24, ↓y_sz24, ↓z_agTy_st, ↓loadW_ptr, ↓lkoW_cons, ↓z_rd_t, ↓z_sub_c, ↓z_sub_nil, ↓z_callv, ↓evW_func, ↓z_evL_cons, ↓z_evL_nil, ↓z_fun0, ↓z_coeL_cons, ↓z_coe_oag, ↓z_coeC_cons, ↓z_coeS_int, ↓z_coeS_sl, ↓z_coeC_nil, ↓z_coeL_nil, true_and])
  intro hd _
  refine call_fnL hC rfl fun _ => ?_
  (simp -dsimp only [↓z_put, Nat.reduceLT, ↓z_ops_plain, ↓z_assign, ↓evW_tmp, ↓lkW_cons, ↓reduceIte, ↓z_ops_nil, ↓z_seq_nrm, ↓z_seq, ↓z_region, ↓z_move, ↓z_binOp, ↓evW_const, ↓constW_int, inR_i64, Int.reduceNeg, Int.reduceLE, and_self, ↓z_bn_neq, ↓z_cond, ↓z_cnd, ↓z_gdt, ne_eq, Nat.reduceEqDiff, ↓z_build, ↓y_ty32, ↓z_blTy_st, ↓y_zr32, ↓z_bld_cons, ↓y_fl32x1, ↓y_sz28, ↓z_cl_int, List.length_cons, List.length_nil, Nat.zero_add, Nat.reduceAdd, Nat.reduceLeDiff, ↓spsW_cons, reduceCtorEq, Nat.reduceSub, ↓drW_cons, ↓drW_nil, ↓z_cat_nil_r, ↓z_bld_nil, ↓z_store, ↓y_sz32, ↓z_cl_oag, ↓z_store_ptr, ↓lkoW_cons, ↓z_so_cons, ↓z_put_none, ↓z_ret, ↓z_seq_rt, ↓z_end_rt, resLW, res1W, ↓z_agTy_st, ↓z_frL_cons, ↓z_frL_nil, and_true, ↓z_coeL_cons, ↓z_coeL_nil, ↓z_pack1, ↓loadW_ptr, ↓z_rd_t, ↓z_sub_c, ↓z_sub_nil, ↓z_fr_oag, ↓z_frSL_cons, ↓z_frS_int, ↓z_frS_nils, ↓z_frSL_nil, ↓z_coe_oag, ↓z_coeC_cons, ↓z_coeS_int, ↓z_coeS_nils, ↓z_coeC_nil, D.agg.injEq, true_and, ↓z_skip, ↓z_fieldAddr, ↓y_fl24x0, ↓y_sz3, not_false_eq_true, ↓z_fa_ptr, ↓z_load, ↓y_ty3, ↓z_agTy_int, ↓z_rd_f, ↓nthW_cons, ↓y_ty24, ↓y_zr24, ↓catW_cons, ↓catW_nil, ↓z_alloc, ↓z_new, ↓z_nm_cons, ↓z_nmC_cons, ↓z_mn'_int, ↓z_mn'_nils, ↓z_nmC_nil, ↓z_mn'_sl, ↓z_nm_nil, ↓z_pg_cons, ↓z_mn_oag, ↓z_mnL_int, ↓z_mnL_nils, ↓z_mnL_nil, ↓z_mn_int, ↓z_mn_ptr, ↓z_mn_bool, ↓z_mnL_sl, ↓z_mn_agg, ↓z_pg_nil, ↓y_sz24, ↓z_region_d, ↓y_mix, z_ite, Classical.not_not])
  refine ⟨fun c0 => ?_, fun c0 => ?_⟩
  · have e : pstE acc ps p = chkB acc ps := if_neg c0
    unfold pstA pstL
    rw [e, if_neg c0, if_neg c0]
    exact ⟨by rfl, rfl⟩
  have hb := chkB_ok c0
  have hlen := hb.len
  have hl2 := po_len ps
  have e2 : pstE acc ps p = chkB acc (ps ++ [p]) := if_pos c0
  refine ⟨by rfl, ?_⟩
  refine rgn_c 8 [4] [20, 23] [4, 7] [(2, .ptr 0 0), (3, .ptr 1 0), (4, .ptr 2 0), (6, .ptr 3 0)] [] [(3, [.int .i64 acc, .nils]), (2, [.int .i64 0, .nils, .int .i64 0]), (1, [.int .i64 p.d, .int .i64 p.c, .int .i64 p.a, .int .i64 p.t, .int .i64 p.w, .int .i64 p.r]), (0, [.int .i64 acc, .sl 6 ps.length (List.flatMap poC ps)])] (by decide +kernel) ?_
  (simp -dsimp only [↓z_wkE_cons, ↓lkW_cons, Nat.reduceEqDiff, ↓reduceIte, Nat.zero_add, Nat.reduceAdd, ↓z_wkE_nil, and_self, ↓z_wkO_cons, ↓lkoW_cons, reduceCtorEq, ↓z_wkO_nil, ↓z_nmTE_cons, ↓z_nmT_ptr, not_false_eq_true, ↓z_nmT_nil, ↓z_nmTE_nil, ↓z_noEs_cons, ↓z_noE_cons, ↓z_noE_nil, ↓z_noEs_nil, ↓z_inE_nil, List.take_succ_cons, List.take_zero, ↓z_drc_fieldAddr, ↓z_nbW_cons, ↓z_nbW_nil, ↓z_drcS, ↓z_grd_none, ↓z_withE, ↓z_rd_tmp, ↓z_rd_nil, ↓z_ap_cons, ↓z_ap_nil, ↓z_apO_cons, ↓z_apO_nil, ↓z_or_fieldAddr, ↓z_fieldAddr, ↓evW_tmp, ↓y_fl24x1, ↓y_sz22, ne_eq, ↓z_fa_ptr, and_true, true_and, ↓z_exD_all, ↓z_exD_all2, ↓z_exD_eq, ↓z_put, Nat.reduceLT, ↓z_drcK, ↓z_drc_load, ↓z_or_load, ↓z_load, ↓y_ty22, ↓z_agTy_sl, ↓loadW_ptr, ↓z_rd_f, ↓nthW_cons, Nat.reduceSub, ↓z_nmT_nils, ↓z_nmT_sl, ↓z_drc_callb_app, ↓z_putF_some, ↓z_dstP_some, ↓y_ty26, ↓y_sz26, ↓z_agTy_st, ↓z_rd_t, List.length_cons, List.length_nil, Nat.reduceLeDiff, ↓z_sub_c, ↓z_sub_nil, ↓z_nmT_oag, ↓z_nmTS_int, ↓z_nmTS_nil, ↓z_drc_buildSlice, ↓z_mpO_cons, ↓z_mpO_nil, ↓z_ap_app, ↓z_or_buildSlice, ↓z_buildSlice, ↓z_slTy, Nat.reduceMul, maxLen_lit, ↓y_zr26, ↓z_repL_s, ↓z_repL_0, ↓z_cat_nil_r, ↓z_bld_cons, ↓z_cl_oag, Nat.zero_mul, ↓spsW_cons, ↓drW_cons, ↓drW_nil, ↓z_bld_nil, ↓z_allP_cons, ↓z_isP_int, ↓z_allP_nil, ↓z_nmT_slx, ↓z_drc_nil])
  refine ch_mk [(17, .nils), (19, .sl 6 ps.length (List.flatMap poC ps))] (.osl 4 6 ps.length) (some 4) 5 [(4, List.flatMap poC ps), (3, [.int .i64 acc, .nils]), (2, [.int .i64 0, .nils, .int .i64 0]), (1, [.int .i64 p.d, .int .i64 p.c, .int .i64 p.a, .int .i64 p.t, .int .i64 p.w, .int .i64 p.r]), (0, [.int .i64 acc, .sl 6 ps.length (List.flatMap poC ps)])] [(20, .osl 4 6 ps.length)] rfl rfl (by simp) (by simp [ebW]) rfl (fun E => ?_) ?_
  · (simp -dsimp only [↓z_ap_cons, ↓z_ap_nil, ↓z_callb, ↓z_evL_cons, ↓evW_tmp, ↓lkW_cons, ↓reduceIte, Nat.reduceEqDiff, ↓z_evL_nil, ↓z_append, ↓y_ty22, ↓z_slTy, ↓z_nint_sl, ↓y_sz26, ↓y_by26, ↓y_zr26, List.length_cons, List.length_nil, Nat.zero_add, Nat.reduceAdd, ↓z_src_sl, ↓z_app_nils, ↓z_room, maxLen_lit, ↓z_new, ↓z_nm_cons, ↓z_nmC_cons, ↓z_mn'_int, ↓z_mn'_nils, ↓z_nmC_nil, and_self, ↓z_mn'_sl, ↓z_nm_nil, Nat.reduceLT, ↓z_pg_cons, ↓z_mn_nils, ↓z_mn_sl, true_and]); (try simp only [Int.toNat_natCast, Nat.mul_one, Bool.or_false, Bool.false_or, Bool.or_self, Bool.or_true])
    exact ⟨by omega, by omega, by simp [pgW, pE, purge, mn]⟩
  (simp -dsimp only [↓z_wkE_cons, ↓lkW_cons, Nat.reduceEqDiff, ↓reduceIte, ↓z_wkE_nil, and_self, ↓z_inE_cons, ↓z_memW_cons, ↓z_inE_nil, ↓z_wkO_cons, ↓lkoW_cons, reduceCtorEq, ↓z_wkO_nil, true_and])
  refine ch_mk [(22, .slx 6 1 [.int .i64 p.d, .int .i64 p.c, .int .i64 p.a, .int .i64 p.t, .int .i64 p.w, .int .i64 p.r])] (.osl 4 6 (ps.length + 1)) (some 4) 5 [(4, List.flatMap poC ps ++ [.int .i64 p.d, .int .i64 p.c, .int .i64 p.a, .int .i64 p.t, .int .i64 p.w, .int .i64 p.r]), (3, [.int .i64 acc, .nils]), (2, [.int .i64 0, .nils, .int .i64 0]), (1, [.int .i64 p.d, .int .i64 p.c, .int .i64 p.a, .int .i64 p.t, .int .i64 p.w, .int .i64 p.r]), (0, [.int .i64 acc, .sl 6 ps.length (List.flatMap poC ps)])] [(23, .osl 4 6 (ps.length + 1))] rfl rfl (by simp) (by simp [ebW]) rfl (fun E => ?_) ?_
  · (simp -dsimp only [↓z_ap_cons, ↓z_ap_nil, ↓z_callb, ↓z_evL_cons, ↓evW_tmp, ↓lkW_cons, ↓reduceIte, Nat.reduceEqDiff, ↓z_evL_nil, ↓z_append, ↓y_ty22, ↓z_slTy, ↓z_nint_sl, ↓y_sz26, ↓y_by26, ↓y_zr26, List.length_cons, List.length_nil, Nat.zero_add, Nat.reduceAdd, ↓z_src_slx, ↓z_app_osl, ↓lkoW_cons, po_len, po_nmC, Nat.reduceLT, ↓z_room, maxLen_lit, Nat.reduceLeDiff, ↓z_pgo_cons, ↓z_pgc_nm, ↓z_nmC_cons, ↓z_mn'_int, ↓z_mn'_nils, ↓z_nmC_nil, and_self, ↓z_mn'_sl, ↓z_pgo_nil, ↓z_pg_cons, ↓z_mn_osl, ↓z_mn_slx, ↓z_so_cons, true_and]); (try simp only [Int.toNat_natCast, Nat.mul_one, Bool.or_false, Bool.false_or, Bool.or_self, Bool.or_true])
    exact ⟨by omega, by omega, by simp [pgW, pE, purge, mn]⟩
  (simp -dsimp only [↓z_wkE_cons, ↓lkW_cons, Nat.reduceEqDiff, ↓reduceIte, ↓z_wkE_nil, and_self, ↓z_inE_cons, ↓z_memW_cons, ↓z_inE_nil, ↓z_wkO_cons, ↓lkoW_cons, reduceCtorEq, ↓z_wkO_nil, true_and]); (try simp only [Int.toNat_natCast, Nat.mul_one, Bool.or_false, Bool.false_or, Bool.or_self, Bool.or_true])
  refine ch_end ?_
  (simp -dsimp only [↓z_ap_cons, ↓z_ap_nil, List.drop_succ_cons, List.drop_zero, ↓z_seq, ↓z_region, ↓z_ops_plain, ↓z_load, ↓y_ty24, ↓y_sz24, ↓z_agTy_st, ↓z_callv, ↓evW_func, ↓z_evL_cons, ↓z_evL_nil, ↓z_fun0, ↓z_coeL_cons, ↓z_coeL_nil, resLW, res1W, ↓y_ty32, ↓y_sz32, ↓z_frL_cons, ↓z_frL_nil, and_true, ↓z_pack1, ↓z_fieldAddr, ↓evW_tmp, ↓lkW_cons, Nat.reduceEqDiff, ↓reduceIte, ↓y_fl24x1, ↓y_sz22, ne_eq, reduceCtorEq, not_false_eq_true, ↓z_fa_ptr, ↓z_put, Nat.reduceLT, ↓z_store, ↓z_cl_osl, List.length_cons, List.length_nil, Nat.zero_add, ↓z_store_ptr, ↓lkoW_cons, Nat.reduceAdd, Nat.reduceLeDiff, ↓spsW_cons, Nat.reduceSub, ↓drW_cons, ↓drW_nil, ↓z_cat_nil_r, ↓z_so_cons, ↓z_put_none, ↓z_ops_nil, ↓z_seq_nrm, ↓loadW_ptr, ↓z_rd_t, ↓z_sub_c, ↓z_sub_nil, ↓z_coe_oag, ↓z_coeC_cons, ↓z_coeS_int, ↓z_coeS_osl, ↓z_allP_app, po_allP, ↓z_allP_cons, ↓z_isP_int, ↓z_allP_nil, and_self, List.length_append, po_len, ↓z_coeC_nil, true_and]); (try simp only [Int.toNat_natCast, Nat.mul_one, Bool.or_false, Bool.false_or, Bool.or_self, Bool.or_true])
  refine ⟨by omega, ?_⟩
  refine call_fnL (hC2.inp (by rw [po_app2]; simp)) rfl fun _ => ?_
  (simp -dsimp only [↓z_put, Nat.reduceLT, ↓z_ops_plain, ↓z_assign, ↓evW_tmp, ↓lkW_cons, ↓reduceIte, ↓z_ops_nil, ↓z_seq_nrm, ↓z_seq, ↓z_region, ↓z_move, ↓z_binOp, ↓evW_const, ↓constW_int, inR_i64, Int.reduceNeg, Int.reduceLE, and_self, ↓z_bn_neq, ↓z_cond, ↓z_cnd, ↓z_gdt, ne_eq, Nat.reduceEqDiff, ↓z_build, ↓y_ty32, ↓z_blTy_st, ↓y_zr32, ↓z_bld_cons, ↓y_fl32x1, ↓y_sz28, ↓z_cl_int, List.length_cons, List.length_nil, Nat.zero_add, Nat.reduceAdd, Nat.reduceLeDiff, ↓spsW_cons, reduceCtorEq, Nat.reduceSub, ↓drW_cons, ↓drW_nil, ↓z_cat_nil_r, ↓z_bld_nil, ↓z_store, ↓y_sz32, ↓z_cl_oag, ↓z_store_ptr, ↓lkoW_cons, ↓z_so_cons, ↓z_put_none, ↓z_ret, ↓z_seq_rt, ↓z_end_rt, resLW, res1W, ↓z_agTy_st, ↓z_frL_cons, ↓z_frL_nil, and_true, ↓z_coeL_cons, ↓z_coeL_nil, ↓z_pack1, ↓loadW_ptr, ↓z_rd_t, ↓z_sub_c, ↓z_sub_nil, ↓z_fr_oag, ↓z_frSL_cons, ↓z_frS_int, ↓z_frS_nils, ↓z_frSL_nil, ↓z_coe_oag, ↓z_coeC_cons, ↓z_coeS_int, ↓z_coeS_nils, ↓z_coeC_nil, D.agg.injEq, true_and, ↓z_skip, ↓z_load, ↓y_ty24, ↓y_sz24, ↓y_fl32x0, ↓catW_cons, ↓catW_nil, ↓z_frS_osl, ↓z_frC_app, po_frC, ↓z_frC_int, ↓z_frC_nil, ↓z_coeS_osl, ↓z_allP_app, po_allP, ↓z_allP_cons, ↓z_isP_int, ↓z_allP_nil, List.length_append, po_len, z_ite, Classical.not_not]); (try simp only [Int.toNat_natCast, Nat.mul_one, Bool.or_false, Bool.false_or, Bool.or_self, Bool.or_true])
  unfold pstA pstL
  rw [e2]
  refine ⟨fun c1 => ?_, fun c1 => ?_⟩
  · rw [if_neg c1, if_neg c1]
    exact ⟨by rfl, rfl⟩
  · rw [if_pos c1, if_pos c1]
    refine ⟨by rfl, by omega, ?_⟩
    unfold bkN bkC
    rw [if_neg (by simp), po_app2, c1]; simp
end Go.Abs

