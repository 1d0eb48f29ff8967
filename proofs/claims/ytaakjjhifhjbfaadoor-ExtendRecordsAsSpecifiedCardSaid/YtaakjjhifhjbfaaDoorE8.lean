/-
  EXTEND, seventh walks: the reference's Yes, Decide, Open, Vote.
-/
import Derived.Test.YtaakjjhifhjbfaaDoorE7
namespace Go.Abs
open Go.Proofs
set_option maxRecDepth 100000 in
set_option maxHeartbeats 8000000 in
theorem fn_Yes (G : Glob) (m : Pl) (hv : m.v.length ≤ 1000) : Fn G Tryd.prog 28 [.agg (plC m)] (.int .i64 (yesN m.v)) := by
  unfold plC
  refine Fn.mk (c := _) Tryd.func28 rfl rfl Tryd.ntmps28 Tryd.results28 ?_
  (simp -dsimp only [bodyW, List.length_cons, List.length_nil, Nat.zero_add, Nat.reduceLeDiff, wfL, ↓z_seq, ↓z_region, ↓z_ops_plain, ↓z_box, ↓evW_tmp, ↓z_lk_env, ↓reduceIte, ↓z_cl_agg, ↓z_nmC_cons, ↓z_mn'_int, ↓z_mn'_sl, ↓z_nmC_nil, and_self, ↓z_new, ↓z_nm_nil, Nat.reduceLT, ↓z_pg_env, ↓z_mn_agg, ↓z_pg_env0, ↓z_put, ↓z_assign, ↓evW_const, ↓constW_int, inR_i64, Int.reduceNeg, Int.reduceLE, ↓z_ops_nil, ↓z_seq_nrm, ↓z_block, ↓z_loop, true_and])
  intro _
  refine hold_intro ⟨[], Nat, fun i => ⟨22, 1, [(4, .int .i64 i), (3, .int .i64 (yesN (m.v.take i))), (1, .ptr 0 0)],
    [(0, [.int .i64 m.o, .int .i64 m.l, .int .i64 m.u, .int .i64 m.n, .sl 19 m.v.length (List.flatMap blC m.v)])]⟩, fun i => i ≤ m.v.length, fun i => m.v.length - i, ?_, ?_⟩
  · (simp -dsimp only [↓z_ad_nil, ↓z_wk, ↓z_wkE_cons, ↓lkW_cons, ↓reduceIte, D.int.injEq, true_and, Nat.reduceEqDiff, ↓z_wkE_nil, and_self, and_true, ↓z_wkO_cons, ↓lkoW_cons, ↓z_wkO_nil]); (try simp only [Int.toNat_natCast, Nat.mul_one, Bool.or_false, Bool.false_or, Bool.or_self, Bool.or_true])
    exact ⟨0, by simp [yesN]⟩
  intro i hi
  have hle := yesN_le (m.v.take i)
  rw [List.length_take] at hle
  by_cases h : i < m.v.length
  · have hlt : ((i : Int) < m.v.length) = True := eq_true (by omega)
    have hys := yesN_s h
    have hf := flg_le m.v[i].y
    (simp -dsimp only [↓z_seq, ↓z_region, ↓z_ops_plain, ↓z_move, ↓evW_tmp, ↓lkW_cons, ↓reduceIte, ↓z_put, Nat.reduceLT, ↓z_fieldAddr, Nat.reduceEqDiff, ↓y_fl34x4, ↓y_sz32, ne_eq, reduceCtorEq, not_false_eq_true, ↓z_fa_ptr, ↓z_load, ↓y_ty32, ↓z_agTy_sl, ↓loadW_ptr, ↓lkoW_cons, ↓z_rd_f, ↓nthW_cons, Nat.zero_add, Nat.reduceSub, ↓z_callb, ↓z_evL_cons, ↓z_evL_nil, ↓z_len, ↓z_ln_sl, ↓z_binOp, ↓z_bn_lss, ↓z_ops_nil, ↓z_seq_nrm, ↓z_cond, ↓z_cnd, ↓z_gdt, hlt, ↓z_skip, ↓z_block, ↓z_indexAddr, ↓z_elTy_sl, ↓y_sz41, ↓z_ix_sl, ↓y_fl41x2, ↓y_sz4, ↓z_fa_rop, ↓y_ty4, ↓z_agTy_bool, ↓loadW_rop, ↓z_callv, ↓evW_func, ↓z_fun0, ↓z_coeL_cons, ↓z_coeL_nil, true_and, nth_bl2, ↓z_coe_bool]); (try simp only [Int.toNat_natCast])
    refine ⟨by omega, h, call_fn (fn_refflag G _) fun _ => ?_⟩
    (simp -dsimp only [↓z_put, Nat.reduceLT, ↓z_ops_plain, ↓z_binOp, ↓evW_tmp, ↓lkW_cons, Nat.reduceEqDiff, ↓reduceIte, ↓z_bn_add, ↓wrW_i64, inR_i64, Int.reduceNeg, ↓z_assign, ↓z_ops_nil, ↓z_blk_nrm, ↓z_seq_nrm, ↓z_region, ↓z_move, ↓evW_const, ↓constW_int, Int.reduceLE, and_self, ↓z_lp_nrm, ↓z_wk, ↓z_wkE_cons, D.int.injEq, true_and, ↓z_wkE_nil, and_true, ↓z_wkO_cons, ↓lkoW_cons, ↓z_wkO_nil]); (try simp only [Int.toNat_natCast, Nat.mul_one, Bool.or_false, Bool.false_or, Bool.or_self, Bool.or_true])
    exact ⟨by omega, by omega, i + 1, by omega, by omega, by omega, hys.symm⟩
  · have hlt : ((i : Int) < m.v.length) = False := eq_false (by omega)
    have e2 : m.v.take i = m.v := List.take_of_length_le (by omega)
    (simp -dsimp only [↓z_seq, ↓z_region, ↓z_ops_plain, ↓z_move, ↓evW_tmp, ↓lkW_cons, ↓reduceIte, ↓z_put, Nat.reduceLT, ↓z_fieldAddr, Nat.reduceEqDiff, ↓y_fl34x4, ↓y_sz32, ne_eq, reduceCtorEq, not_false_eq_true, ↓z_fa_ptr, ↓z_load, ↓y_ty32, ↓z_agTy_sl, ↓loadW_ptr, ↓lkoW_cons, ↓z_rd_f, ↓nthW_cons, Nat.zero_add, Nat.reduceSub, ↓z_callb, ↓z_evL_cons, ↓z_evL_nil, ↓z_len, ↓z_ln_sl, ↓z_binOp, ↓z_bn_lss, ↓z_ops_nil, ↓z_seq_nrm, ↓z_cond, ↓z_cnd, ↓z_gdt, hlt, ↓z_exit, ↓z_seq_ext, ↓z_lp_ext, ↓z_blk_ext, ↓z_assign, ↓z_ret, ↓z_end_rt, resLW, res1W, e2, ↓z_coeL_cons, ↓z_coeL_nil, ↓z_pack1, ↓z_coe_int, and_self]); (try simp only [Int.toNat_natCast, Nat.mul_one, Bool.or_false, Bool.false_or, Bool.or_self, Bool.or_true])
set_option maxRecDepth 100000 in
set_option maxHeartbeats 8000000 in
theorem fn_refDecide (c : Cn) (m : Pl) (now : Int) (hv : m.v.length ≤ 1000) : Fn GK Tryd.prog 23 [.agg (cnC c), .agg (plC m), .int .i64 now] (.agg [.int .i64 (dcN c m now), .int .i64 (dcE c m now)]) := by
  have hC := fn_refCheck GK c
  have hR := fun hc => fn_refRight c m hc hv
  have hN := fn_Yes GK m hv
  unfold cnC plC at *
  refine Fn.mk (c := _) Tryd.func23 rfl rfl Tryd.ntmps23 Tryd.results23 ?_
  (simp -dsimp only [bodyW, List.length_cons, List.length_nil, Nat.zero_add, Nat.reduceAdd, Nat.reduceLeDiff, wfL, ↓z_seq, ↓z_region, ↓z_ops_plain, ↓z_box, ↓evW_tmp, ↓z_lk_env, ↓reduceIte, ↓z_cl_agg, ↓z_nmC_cons, ↓z_mn'_sl, ↓z_mn'_int, ↓z_nmC_nil, and_self, ↓z_new, ↓z_nm_nil, Nat.reduceLT, ↓z_pg_env, ↓z_mn_agg, ↓z_mn_int, ↓z_pg_env0, ↓z_put, ↓lkW_cons, Nat.reduceEqDiff, reduceCtorEq, ↓z_nm_cons, ↓z_pg_cons, ↓z_mn_ptr, ↓z_pg_nil, ↓z_alloc, ↓y_zr68, ↓z_ops_nil, ↓z_seq_nrm, ↓z_load, ↓y_ty25, ↓y_sz25, ↓z_agTy_st, ↓loadW_ptr, ↓lkoW_cons, ↓z_rd_t, ↓z_sub_c, ↓z_sub_nil, ↓z_callv, ↓evW_func, ↓z_evL_cons, ↓z_evL_nil, ↓z_fun0, ↓z_coeL_cons, ↓z_coe_oag, ↓z_coeC_cons, ↓z_coeS_sl, ↓z_coeS_int, ↓z_coeC_nil, ↓z_coeL_nil, true_and])
  intro _ _ _
  refine call_fnL hC rfl fun _ => ?_
  (simp -dsimp only [↓z_put, Nat.reduceLT, ↓z_ops_plain, ↓z_assign, ↓evW_tmp, ↓lkW_cons, ↓reduceIte, ↓z_ops_nil, ↓z_seq_nrm, ↓z_seq, ↓z_region, ↓z_move, ↓z_binOp, ↓evW_const, ↓constW_int, inR_i64, Int.reduceNeg, Int.reduceLE, and_self, ↓z_bn_neq, ↓z_cond, ↓z_cnd, ↓z_gdt, ne_eq, Nat.reduceEqDiff, ↓z_build, ↓y_ty68, ↓z_blTy_st, ↓y_zr68, ↓z_bld_cons, ↓y_fl68x1, ↓y_sz30, ↓z_cl_int, List.length_cons, List.length_nil, Nat.zero_add, Nat.reduceAdd, Nat.reduceLeDiff, ↓spsW_cons, reduceCtorEq, Nat.reduceSub, ↓drW_cons, ↓drW_nil, ↓z_cat_nil_r, ↓z_bld_nil, ↓z_store, ↓y_sz68, ↓z_cl_oag, ↓z_store_ptr, ↓lkoW_cons, ↓z_so_cons, ↓z_put_none, ↓z_ret, ↓z_seq_rt, ↓z_end_rt, resLW, res1W, ↓z_agTy_st, ↓z_coeL_cons, ↓z_coeL_nil, ↓z_pack1, ↓loadW_ptr, ↓z_rd_t, ↓z_sub_c, ↓z_sub_nil, ↓z_coe_oag, ↓z_coeC_cons, ↓z_coeS_int, ↓z_coeC_nil, D.agg.injEq, List.cons.injEq, D.int.injEq, true_and, and_true, ↓z_skip, ↓z_load, ↓y_ty25, ↓y_sz25, ↓y_ty34, ↓y_sz34, ↓z_callv, ↓evW_func, ↓z_evL_cons, ↓z_evL_nil, ↓z_fun0, ↓z_coeS_sl, z_ite, Classical.not_not])
  have no : dcE c m now ≠ 0 → dcN c m now = 0 := fun g => if_neg g
  refine ⟨fun c0 => ?_, fun c0 => ?_⟩
  · have hn : ¬ okC c := fun g => c0 (chkC_0.2 g)
    have e1 : dcE c m now = 1 := if_neg hn
    rw [no (by omega), e1, chkC_no hn]
    exact ⟨by rfl, rfl, rfl⟩
  have hc : okC c := chkC_0.1 c0
  have e0 : dcE c m now = if rgtP c m then (if m.l < now then 18 else if now < lstT m then 15 else if yesN m.v < c.nd then 29 else 0) else 1 := if_pos hc
  refine call_fnL (hR hc) rfl fun _ => ?_
  (simp -dsimp only [↓z_put, Nat.reduceLT, ↓z_ops_plain, ↓z_assign, ↓evW_tmp, ↓lkW_cons, ↓reduceIte, ↓z_ops_nil, ↓z_seq_nrm, ↓z_seq, ↓z_region, ↓z_move, ↓z_unOp, ↓z_un_not, ↓z_cond, ↓z_cnd, ↓z_gnt, ↓z_gdf, ↓z_skip, Nat.reduceEqDiff, reduceCtorEq, Nat.zero_add, Nat.reduceAdd, ↓z_fieldAddr, ↓y_fl34x1, ↓y_sz3, ne_eq, not_false_eq_true, ↓z_fa_ptr, ↓z_load, ↓y_ty3, ↓z_agTy_int, ↓loadW_ptr, ↓lkoW_cons, ↓z_rd_f, ↓nthW_cons, Nat.reduceSub, ↓z_binOp, ↓z_bn_gtr, ↓z_gdt, ↓z_build, ↓y_ty68, ↓z_blTy_st, ↓y_zr68, ↓z_bld_cons, ↓y_fl68x1, ↓y_sz30, ↓evW_const, ↓constW_int, inR_i64, Int.reduceNeg, Int.reduceLE, and_self, ↓z_cl_int, List.length_cons, List.length_nil, Nat.reduceLeDiff, ↓spsW_cons, ↓drW_cons, ↓drW_nil, ↓z_cat_nil_r, ↓z_bld_nil, ↓z_store, ↓y_sz68, ↓z_cl_oag, ↓z_store_ptr, ↓z_so_cons, ↓z_put_none, ↓z_ret, ↓z_seq_rt, ↓z_end_rt, resLW, res1W, ↓z_agTy_st, ↓z_coeL_cons, ↓z_coeL_nil, ↓z_pack1, ↓z_rd_t, ↓z_sub_c, ↓z_sub_nil, ↓z_coe_oag, ↓z_coeC_cons, ↓z_coeS_int, ↓z_coeC_nil, D.agg.injEq, List.cons.injEq, D.int.injEq, true_and, and_true, ↓y_fl34x3, ↓z_bn_lss, ↓z_ops_guard, ↓z_grd, ↓z_dst_s, ↓z_dst_0, ↓z_grdD_b, ↓z_gnf, ↓z_gft, ↓z_grdD_u, ↓z_pick, ↓z_pick_b, ↓z_gff, ↓constW_bool, ↓z_gtt, Bool.not_false, ↓y_fl34x4, ↓y_sz32, ↓y_ty32, ↓z_agTy_sl, ↓z_callb, ↓z_evL_cons, ↓z_evL_nil, ↓z_len, ↓z_ln_sl, ↓z_bn_sub, ↓wrW_i64, ↓z_indexAddr, ↓z_elTy_sl, ↓y_sz41, ↓z_ix_sl, ↓y_fl41x1, ↓z_fa_rop, ↓loadW_rop, ↓z_region_d, ↓y_mix, nth_bl1, z_ite, ↓z_gtf])
  have hidx : ((m.v.length : Int) - 1).toNat = m.v.length - 1 := by omega
  simp only [hidx]
  have hl3 : m.n ≤ lstT m := by
    rcases @lst_pos m with e | ⟨p, e⟩ <;> omega
  refine ⟨fun c1 => ?_, fun c1 => ?_⟩
  · rw [if_pos c1] at e0
    refine ⟨fun c2 => ?_, fun c2 => ?_⟩
    · rw [if_pos c2] at e0
      rw [no (by omega), e0]
      exact ⟨by rfl, rfl, rfl⟩
    rw [if_neg c2] at e0
    have st : now < lstT m → (([(0, 3), (1, 30)] : List (Nat × TypeId)).all fun p => (Tryd.prog.info? p.2).isSome) = true ∧ 0 = dcN c m now ∧ 15 = dcE c m now := fun c3 => by
      rw [if_pos c3] at e0
      rw [no (by omega), e0]
      exact ⟨by rfl, rfl, rfl⟩
    refine ⟨fun c3 => st (by omega), fun c3 => ⟨fun p => ⟨by omega, by omega, by omega, by omega, fun c4 => st (by have := @lst_s m (by omega); omega), fun c4 => ?_⟩, fun p => ?_⟩⟩
    all_goals
      have nl : ¬ now < lstT m := by
        by_cases p : 0 < m.v.length
        · have := lst_s p; omega
        · have := @lst_0 m (by omega); omega
      rw [if_neg nl] at e0
      refine rgn_d (by decide +kernel) ?_
      (simp -dsimp only [↓z_drw_load, ↓z_drwS, ↓z_grd_none, ↓z_withE, ↓z_rd_tmp, ↓lkW_cons, Nat.reduceEqDiff, ↓reduceIte, ↓z_rd_nil, ↓z_ap_cons, ↓z_ap_nil, ↓z_or_load, ↓z_load, ↓evW_tmp, ↓y_ty34, ↓y_sz34, ↓z_agTy_st, ↓loadW_ptr, ↓lkoW_cons, Nat.zero_add, Nat.reduceAdd, ↓z_rd_t, List.length_cons, List.length_nil, Nat.reduceLeDiff, ↓z_sub_c, ↓z_sub_nil, and_true, true_and, ↓z_exD_all, ↓z_exD_eq, ↓z_put, Nat.reduceLT, ↓z_drwK, ↓z_drw_callv, ↓z_rd_func]); (try simp only [Int.toNat_natCast, Nat.mul_one, Bool.or_false, Bool.false_or, Bool.or_self, Bool.or_true])
      refine ex_mk (.int .i64 (yesN m.v)) (fun E => by (simp -dsimp only [↓z_ap_cons, ↓z_ap_nil, ↓z_callv, ↓evW_func, ↓z_evL_cons, ↓evW_tmp, ↓lkW_cons, ↓reduceIte, ↓z_evL_nil, ↓z_fun0, ↓z_coeL_cons, ↓z_coe_oag, ↓z_coeC_cons, ↓z_coeS_int, ↓z_coeS_sl, ↓z_coeC_nil, ↓z_coeL_nil]); (try simp only [Int.toNat_natCast, Nat.mul_one, Bool.or_false, Bool.false_or, Bool.or_self, Bool.or_true]); exact call_fnL hN rfl fun _ => ⟨rfl, rfl⟩) ?_
      (simp -dsimp only [↓z_put, Nat.reduceLT, ↓z_drwK, ↓z_drw_fieldAddr, ↓z_drwS, ↓z_grd_none, ↓z_withE, ↓z_rd_tmp, ↓lkW_cons, Nat.reduceEqDiff, ↓reduceIte, ↓z_rd_nil, ↓z_ap_cons, ↓z_ap_nil, ↓z_or_fieldAddr, ↓z_fieldAddr, ↓evW_tmp, ↓y_fl25x2, ↓y_sz3, ne_eq, reduceCtorEq, not_false_eq_true, ↓z_fa_ptr, Nat.zero_add, Nat.reduceAdd, and_true, true_and, ↓z_exD_all, ↓z_exD_eq, ↓z_drw_load, ↓z_or_load, ↓z_load, ↓y_ty3, ↓z_agTy_int, ↓loadW_ptr, ↓lkoW_cons, ↓z_rd_f, ↓nthW_cons, Nat.reduceSub, ↓z_drw_binOp, ↓z_or_binOp, ↓z_binOp, ↓z_bn_lss, ↓z_drw_nil, ↓z_seq_nrm, ↓z_cond, ↓z_cnd, ↓z_gdt, ↓z_seq, ↓z_region, ↓z_ops_plain, ↓z_build, ↓y_ty68, ↓z_blTy_st, ↓y_zr68, ↓z_bld_cons, ↓y_fl68x1, ↓y_sz30, ↓evW_const, ↓constW_int, inR_i64, Int.reduceNeg, Int.reduceLE, and_self, ↓z_cl_int, List.length_cons, List.length_nil, Nat.reduceLeDiff, ↓spsW_cons, ↓drW_cons, ↓drW_nil, ↓z_cat_nil_r, ↓z_bld_nil, ↓z_store, ↓y_sz68, ↓z_cl_oag, ↓z_store_ptr, ↓z_so_cons, ↓z_put_none, ↓z_ops_nil, ↓z_ret, ↓z_seq_rt, ↓z_end_rt, resLW, res1W, ↓z_agTy_st, ↓z_coeL_cons, ↓z_coeL_nil, ↓z_pack1, ↓z_rd_t, ↓z_sub_c, ↓z_sub_nil, ↓z_coe_oag, ↓z_coeC_cons, ↓z_coeS_int, ↓z_coeC_nil, D.agg.injEq, List.cons.injEq, D.int.injEq, ↓z_skip, ↓y_fl34x2, ↓y_fl68x0, ↓catW_cons, ↓catW_nil, z_ite, Bool.not_true]); (try simp only [Int.toNat_natCast, Nat.mul_one, Bool.or_false, Bool.false_or, Bool.or_self, Bool.or_true])
      refine ⟨fun c5 => ?_, fun c5 => ?_⟩
      · rw [if_pos c5] at e0
        rw [no (by omega), e0]
        exact ⟨by rfl, rfl, rfl⟩
      · rw [if_neg c5] at e0
        rw [show dcN c m now = m.u from if_pos e0, e0]
        exact ⟨by rfl, rfl, rfl⟩
  · rw [if_neg c1] at e0
    rw [no (by omega), e0]
    exact ⟨by rfl, rfl, rfl⟩
theorem okC_frm_rgt {c : Cn} (hc : okC c) (o l u n : Int) : rgtP c ⟨o, l, u, n, []⟩ ↔ frmP c ⟨o, l, u, n, []⟩ :=
  ⟨fun h => h.2.1, fun h => ⟨hc, h, fun k hk => by simp at hk⟩⟩
set_option maxRecDepth 100000 in
set_option maxHeartbeats 8000000 in
theorem fn_refOpen (c : Cn) (o l u n : Int) : Fn GK Tryd.prog 19 [.agg (cnC c), .int .i64 o, .int .i64 l, .int .i64 u, .int .i64 n] (.agg (plC (opP c o l u n) ++ [.int .i64 (opE c o l u n)])) := by
  have hW : DW (.agg (plN (opP c o l u n) ++ [.int .i64 (opE c o l u n)])) (.agg (plC (opP c o l u n) ++ [.int .i64 (opE c o l u n)])) := by
    unfold plN plC opP
    split <;> exact .agg (.cons (.refl _) (.cons (.refl _) (.cons (.refl _) (.cons (.refl _) (.cons (.nils _) (.cons (.refl _) .nil))))))
  refine Fn.outW ?_ hW
  have hC := fn_refCheck GK c
  have hR := fun hc => (fn_refRight c ⟨o, l, u, n, []⟩ hc (by simp)).weak (ds' := [.agg (cnC c), .agg (plN ⟨o, l, u, n, []⟩)]) (.cons (.refl _) (.cons (.agg (.cons (.refl _) (.cons (.refl _) (.cons (.refl _) (.cons (.refl _) (.cons (.nils _) .nil)))))) .nil))
  unfold cnC plN at *
  refine Fn.mk (c := _) Tryd.func19 rfl rfl Tryd.ntmps19 Tryd.results19 ?_
  (simp -dsimp only [bodyW, List.length_cons, List.length_nil, Nat.zero_add, Nat.reduceAdd, Nat.reduceLeDiff, wfL, ↓z_seq, ↓z_region, ↓z_ops_plain, ↓z_box, ↓evW_tmp, ↓z_lk_env, ↓reduceIte, ↓z_cl_agg, ↓z_nmC_cons, ↓z_mn'_sl, ↓z_mn'_int, ↓z_nmC_nil, and_self, ↓z_new, ↓z_nm_nil, Nat.reduceLT, ↓z_pg_env, ↓z_mn_agg, ↓z_mn_int, ↓z_pg_env0, ↓z_put, ↓z_alloc, ↓y_zr59, ↓z_nm_cons, ↓z_pg_cons, ↓z_mn_ptr, reduceCtorEq, ↓z_pg_nil, ↓z_ops_nil, ↓z_seq_nrm, ↓z_load, ↓lkW_cons, Nat.reduceEqDiff, ↓y_ty25, ↓y_sz25, ↓z_agTy_st, ↓loadW_ptr, ↓lkoW_cons, ↓z_rd_t, ↓z_sub_c, ↓z_sub_nil, ↓z_callv, ↓evW_func, ↓z_evL_cons, ↓z_evL_nil, ↓z_fun0, ↓z_coeL_cons, ↓z_coe_oag, ↓z_coeC_cons, ↓z_coeS_sl, ↓z_coeS_int, ↓z_coeC_nil, ↓z_coeL_nil, true_and])
  intro _ _ _ _ _
  refine call_fnL hC rfl fun _ => ?_
  (simp -dsimp only [↓z_put, Nat.reduceLT, ↓z_ops_plain, ↓z_assign, ↓evW_tmp, ↓lkW_cons, ↓reduceIte, ↓z_ops_nil, ↓z_seq_nrm, ↓z_seq, ↓z_region, ↓z_move, ↓z_binOp, ↓evW_const, ↓constW_int, inR_i64, Int.reduceNeg, Int.reduceLE, and_self, ↓z_bn_neq, ↓z_cond, ↓z_cnd, ↓z_gdt, ne_eq, Nat.reduceEqDiff, ↓z_build, ↓y_ty59, ↓z_blTy_st, ↓y_zr59, ↓z_bld_cons, ↓y_fl59x1, ↓y_sz30, ↓z_cl_int, List.length_cons, List.length_nil, Nat.zero_add, Nat.reduceAdd, Nat.reduceLeDiff, ↓spsW_cons, reduceCtorEq, Nat.reduceSub, ↓drW_cons, ↓drW_nil, ↓z_cat_nil_r, ↓z_bld_nil, ↓z_store, ↓y_sz59, ↓z_cl_oag, ↓z_store_ptr, ↓lkoW_cons, ↓z_so_cons, ↓z_put_none, ↓z_ret, ↓z_seq_rt, ↓z_end_rt, resLW, res1W, ↓z_agTy_st, ↓z_coeL_cons, ↓z_coeL_nil, ↓z_pack1, ↓loadW_ptr, ↓z_rd_t, ↓z_sub_c, ↓z_sub_nil, ↓z_coe_oag, ↓z_coeC_cons, ↓z_coeS_int, ↓z_coeS_nils, ↓z_coeC_nil, D.agg.injEq, true_and, ↓z_skip, ↓z_bn_gtr, ↓y_ty34, ↓y_zr34, ↓y_fl34x0, ↓y_sz3, ↓catW_cons, ↓catW_nil, ↓y_fl34x1, ↓y_fl34x2, ↓y_fl34x3, ↓z_alloc, ↓z_new, ↓z_nm_cons, ↓z_nmC_cons, ↓z_mn'_int, ↓z_mn'_nils, ↓z_nmC_nil, ↓z_mn'_sl, ↓z_nm_nil, ↓z_pg_cons, ↓z_mn_oag, ↓z_mnL_int, ↓z_mnL_nils, ↓z_mnL_nil, ↓z_mn_int, ↓z_mn_bool, ↓z_mnL_sl, ↓z_mn_ptr, ↓z_mn_agg, ↓z_pg_nil, ↓y_sz34, ↓z_load, ↓y_ty25, ↓y_sz25, ↓z_callv, ↓evW_func, ↓z_evL_cons, ↓z_evL_nil, ↓z_fun0, ↓z_coeS_sl, z_ite, Classical.not_not])
  have ne : opE c o l u n ≠ 0 → opP c o l u n = ⟨0, 0, 0, 0, []⟩ := fun h => if_neg h
  refine ⟨fun c0 => ?_, fun c0 => ?_⟩
  · have e1 : opE c o l u n = 1 := if_neg fun g => c0 (chkC_0.2 g)
    rw [ne (by omega), e1, chkC_no fun g => c0 (chkC_0.2 g)]
    exact ⟨by rfl, rfl⟩
  have hc : okC c := chkC_0.1 c0
  have e0 : opE c o l u n = if l < n then 18 else if frmP c ⟨o, l, u, n, []⟩ then 0 else 3 := if_pos hc
  refine ⟨fun c1 => ?_, fun c1 => ⟨by rfl, ?_⟩⟩
  · rw [if_pos c1] at e0
    rw [ne (by omega), e0]
    exact ⟨by rfl, rfl⟩
  rw [if_neg c1] at e0
  refine call_fnL (hR hc) rfl fun _ => ?_
  (simp -dsimp only [↓z_put, Nat.reduceLT, ↓z_ops_plain, ↓z_assign, ↓evW_tmp, ↓lkW_cons, ↓reduceIte, ↓z_ops_nil, ↓z_seq_nrm, ↓z_seq, ↓z_region, ↓z_move, ↓z_unOp, ↓z_un_not, ↓z_cond, ↓z_cnd, ↓z_gnt, ↓z_gdf, ↓z_skip, ↓z_load, Nat.reduceEqDiff, ↓y_ty34, ↓y_sz34, ↓z_agTy_st, ↓loadW_ptr, ↓lkoW_cons, Nat.zero_add, Nat.reduceAdd, ↓z_rd_t, List.length_cons, List.length_nil, Nat.reduceLeDiff, ↓z_sub_c, ↓z_sub_nil, ↓z_build, ↓y_ty59, ↓z_blTy_st, ↓y_zr59, ↓z_bld_cons, ↓y_fl59x0, ↓z_cl_oag, ↓spsW_cons, ↓drW_cons, reduceCtorEq, Nat.reduceSub, ↓catW_cons, ↓catW_nil, ↓z_bld_nil, ↓z_store, ↓y_sz59, ↓z_store_ptr, ↓drW_nil, ↓z_cat_nil_r, ↓z_so_cons, ↓z_put_none, ↓z_ret, ↓z_end_rt, resLW, res1W, ne_eq, ↓z_coeL_cons, ↓z_coeL_nil, ↓z_pack1, ↓z_coe_oag, ↓z_coeC_cons, ↓z_coeS_int, ↓z_coeS_nils, ↓z_coeC_nil, D.agg.injEq, true_and, ↓y_fl59x1, ↓y_sz30, ↓evW_const, ↓constW_int, inR_i64, Int.reduceNeg, Int.reduceLE, and_self, ↓z_cl_int, ↓z_seq_rt, z_ite]); (try simp only [Int.toNat_natCast, Nat.mul_one, Bool.or_false, Bool.false_or, Bool.or_self, Bool.or_true])
  refine ⟨fun c2 => ?_, fun c2 => ?_⟩
  · rw [if_pos ((okC_frm_rgt hc o l u n).1 c2)] at e0
    rw [show opP c o l u n = ⟨o, l, u, n, []⟩ from if_pos e0, e0]
    exact ⟨by rfl, rfl⟩
  · rw [if_neg fun g => c2 ((okC_frm_rgt hc o l u n).2 g)] at e0
    rw [ne (by omega), e0]
    exact ⟨by rfl, rfl⟩
end Go.Abs

