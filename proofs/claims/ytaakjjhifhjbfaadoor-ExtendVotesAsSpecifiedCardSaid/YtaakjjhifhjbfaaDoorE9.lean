/-
  EXTEND, eighth walks: the reference's Vote; comparing pleas; small councils.
-/
import Derived.Test.YtaakjjhifhjbfaaDoorE8
namespace Go.Abs
open Go.Proofs
theorem nmTS_bD (tc : List Nat) : ∀ l : List UInt8, nmTS tc (l.map bD)
  | [] => trivial
  | _ :: r => ⟨fun _ _ => rfl, nmTS_bD tc r⟩
set_option maxRecDepth 100000 in
set_option maxHeartbeats 900000 in
theorem fn_refVote (c : Cn) (m : Pl) (v : Bl) (hv : m.v.length ≤ 100) : Fn GK Tryd.prog 22 [.agg (cnC c), .agg (plC m), .agg (blC v)] (.agg (plC (vtP c m v) ++ [.int .i64 (vtE c m v)])) := by
  have hC := fn_refCheck GK c
  have hR := fun hc => fn_refRight c m hc (by omega)
  have hV := fun hc => fn_wrong c m v hc (by omega)
  have hv16 := v.hs
  have e16 : List.take 16 v.s = v.s := List.take_of_length_le (by omega)
  unfold cnC plC at *
  rw [bl_eq] at *
  refine Fn.mk (c := _) Tryd.func22 rfl rfl Tryd.ntmps22 Tryd.results22 ?_
  (simp -dsimp only [bodyW, List.length_cons, List.length_nil, Nat.zero_add, Nat.reduceAdd, Nat.reduceLeDiff, wfL, ↓z_seq, ↓z_region, ↓z_ops_plain, ↓z_box, ↓evW_tmp, ↓z_lk_env, ↓reduceIte, ↓z_cl_agg, ↓z_nmC_cons, ↓z_mn'_sl, ↓z_mn'_int, ↓z_nmC_nil, and_self, ↓z_new, ↓z_nm_nil, Nat.reduceLT, ↓z_pg_env, ↓z_mn_agg, ↓z_pg_env0, ↓z_put, ↓lkW_cons, Nat.reduceEqDiff, reduceCtorEq, ↓z_nm_cons, ↓z_pg_cons, ↓z_mn_ptr, ↓z_pg_nil, ↓z_mn'_bool, ↓z_nmC_bytes, ↓z_alloc, ↓y_zr59, ↓z_ops_nil, ↓z_seq_nrm, ↓z_load, ↓y_ty25, ↓y_sz25, ↓z_agTy_st, ↓loadW_ptr, ↓lkoW_cons, ↓z_rd_t, ↓z_sub_c, ↓z_sub_nil, ↓z_callv, ↓evW_func, ↓z_evL_cons, ↓z_evL_nil, ↓z_fun0, ↓z_coeL_cons, ↓z_coe_oag, ↓z_coeC_cons, ↓z_coeS_sl, ↓z_coeS_int, ↓z_coeC_nil, ↓z_coeL_nil, true_and])
  intro _ _ _
  refine call_fnL hC rfl fun _ => ?_
  (simp -dsimp only [↓z_put, Nat.reduceLT, ↓z_ops_plain, ↓z_assign, ↓evW_tmp, ↓lkW_cons, ↓reduceIte, ↓z_ops_nil, ↓z_seq_nrm, ↓z_seq, ↓z_region, ↓z_move, ↓z_binOp, ↓evW_const, ↓constW_int, inR_i64, Int.reduceNeg, Int.reduceLE, and_self, ↓z_bn_neq, ↓z_cond, ↓z_cnd, ↓z_gdt, ne_eq, ↓z_load, Nat.reduceEqDiff, ↓y_ty34, ↓y_sz34, ↓z_agTy_st, ↓loadW_ptr, ↓lkoW_cons, Nat.zero_add, Nat.reduceAdd, ↓z_rd_t, List.length_cons, List.length_nil, Nat.reduceLeDiff, ↓z_sub_c, ↓z_sub_nil, ↓z_build, ↓y_ty59, ↓z_blTy_st, ↓y_zr59, ↓z_bld_cons, ↓y_fl59x0, ↓z_cl_oag, ↓spsW_cons, ↓drW_cons, reduceCtorEq, Nat.reduceSub, ↓catW_cons, ↓catW_nil, ↓y_fl59x1, ↓y_sz30, ↓z_cl_int, ↓drW_nil, ↓z_cat_nil_r, ↓z_bld_nil, ↓z_store, ↓y_sz59, ↓z_store_ptr, ↓z_so_cons, ↓z_put_none, ↓z_ret, ↓z_seq_rt, ↓z_end_rt, resLW, res1W, ↓z_coeL_cons, ↓z_coeL_nil, ↓z_pack1, ↓z_coe_oag, ↓z_coeC_cons, ↓z_coeS_int, ↓z_coeS_sl, ↓z_coeC_nil, D.agg.injEq, true_and, ↓z_skip, ↓y_ty25, ↓y_sz25, ↓z_callv, ↓evW_func, ↓z_evL_cons, ↓z_evL_nil, ↓z_fun0, z_ite, Classical.not_not])
  have no : vtE c m v ≠ 0 → vtP c m v = m := fun g => if_neg g
  refine ⟨fun c0 => ?_, fun c0 => ?_⟩
  · have hn : ¬ okC c := fun g => c0 (chkC_0.2 g)
    have e1 : vtE c m v = 1 := if_neg hn
    rw [no (by omega), e1, chkC_no hn]
    exact ⟨by rfl, rfl⟩
  have hc : okC c := chkC_0.1 c0
  have e0 : vtE c m v = if rgtP c m then voE c m v else 1 := if_pos hc
  refine call_fnL (hR hc) rfl fun _ => ?_
  (simp -dsimp only [↓z_put, Nat.reduceLT, ↓z_ops_plain, ↓z_assign, ↓evW_tmp, ↓lkW_cons, ↓reduceIte, ↓z_ops_nil, ↓z_seq_nrm, ↓z_seq, ↓z_region, ↓z_move, ↓z_unOp, ↓z_un_not, ↓z_cond, ↓z_cnd, ↓z_gnt, ↓z_gdf, ↓z_skip, ↓z_load, Nat.reduceEqDiff, ↓y_ty25, ↓y_sz25, ↓z_agTy_st, ↓loadW_ptr, ↓lkoW_cons, Nat.zero_add, Nat.reduceAdd, reduceCtorEq, ↓z_rd_t, List.length_cons, List.length_nil, Nat.reduceLeDiff, ↓z_sub_c, ↓z_sub_nil, ↓y_ty34, ↓y_sz34, ↓y_ty41, ↓y_sz41, List.length_map, ↓z_sub_map, ↓z_callv, ↓evW_func, ↓z_evL_cons, ↓z_evL_nil, ↓z_fun0, ↓z_coeL_cons, ↓z_coe_oag, ↓z_coeC_cons, ↓z_coeS_sl, ↓z_coeS_int, ↓z_coeC_nil, ↓z_coeS_bool, ↓z_coeC_bytes, ↓z_coeL_nil, true_and, ↓z_build, ↓y_ty59, ↓z_blTy_st, ↓y_zr59, ↓z_bld_cons, ↓y_fl59x0, ↓z_cl_oag, ↓spsW_cons, ↓drW_cons, Nat.reduceSub, ↓catW_cons, ↓catW_nil, ↓y_fl59x1, ↓y_sz30, ↓evW_const, ↓constW_int, inR_i64, Int.reduceNeg, Int.reduceLE, and_self, ↓z_cl_int, ↓drW_nil, ↓z_cat_nil_r, ↓z_bld_nil, ↓z_store, ↓y_sz59, ↓z_store_ptr, ↓z_so_cons, ↓z_put_none, ↓z_ret, ↓z_seq_rt, ↓z_end_rt, resLW, res1W, ne_eq, ↓z_pack1, D.agg.injEq, z_ite])
  refine ⟨fun c1 => ?_, fun c1 => ?_⟩
  · rw [if_pos c1] at e0
    refine ⟨by omega, ?_⟩
    refine call_fnL ((hV hc).inp (by rw [List.drop_zero, e16])) rfl fun _ => ?_
    (simp -dsimp only [↓z_put, Nat.reduceLT, ↓z_ops_plain, ↓z_assign, ↓evW_tmp, ↓lkW_cons, ↓reduceIte, ↓z_ops_nil, ↓z_seq_nrm, ↓z_seq, ↓z_region, ↓z_move, ↓z_binOp, ↓evW_const, ↓constW_int, inR_i64, Int.reduceNeg, Int.reduceLE, and_self, ↓z_bn_neq, ↓z_cond, ↓z_cnd, ↓z_gdt, ne_eq, ↓z_load, Nat.reduceEqDiff, ↓y_ty34, ↓y_sz34, ↓z_agTy_st, ↓loadW_ptr, ↓lkoW_cons, Nat.zero_add, Nat.reduceAdd, ↓z_rd_t, List.length_cons, List.length_nil, Nat.reduceLeDiff, ↓z_sub_c, ↓z_sub_nil, ↓z_build, ↓y_ty59, ↓z_blTy_st, ↓y_zr59, ↓z_bld_cons, ↓y_fl59x0, ↓z_cl_oag, ↓spsW_cons, ↓drW_cons, reduceCtorEq, Nat.reduceSub, ↓catW_cons, ↓catW_nil, ↓y_fl59x1, ↓y_sz30, ↓z_cl_int, ↓drW_nil, ↓z_cat_nil_r, ↓z_bld_nil, ↓z_store, ↓y_sz59, ↓z_store_ptr, ↓z_so_cons, ↓z_put_none, ↓z_ret, ↓z_seq_rt, ↓z_end_rt, resLW, res1W, ↓z_coeL_cons, ↓z_coeL_nil, ↓z_pack1, ↓z_coe_oag, ↓z_coeC_cons, ↓z_coeS_int, ↓z_coeS_sl, ↓z_coeC_nil, D.agg.injEq, true_and, ↓z_skip, ↓z_alloc, ↓y_zr34, ↓z_new, ↓z_nm_cons, ↓z_nmC_cons, ↓z_mn'_int, ↓z_mn'_nils, ↓z_nmC_nil, ↓z_mn'_bool, ↓z_nmC_bytes, ↓z_mn'_sl, ↓z_nm_nil, ↓z_pg_cons, ↓z_mn_oag, ↓z_mnL_int, ↓z_mnL_sl, ↓z_mnL_nil, ↓z_mn_bool, ↓z_mn_int, ↓z_mnL_bool, ↓z_mnL_bytes, ↓z_mn_ptr, ↓z_mn_agg, ↓z_pg_nil, ↓z_region_d, ↓y_mix, z_ite, Classical.not_not])
    refine ⟨fun c2 => ?_, fun c2 => ?_⟩
    · rw [no (by omega), e0]
      exact ⟨by rfl, rfl⟩
    have e1 : vtP c m v = ⟨m.o, m.l, m.u, m.n, m.v ++ [v]⟩ := if_pos (by omega)
    rw [e1, e0, c2]
    have hl2 := bl_len m.v
    refine rgn_c 7 [5] [37, 40] [3, 6] [(3, .ptr 0 0), (4, .ptr 1 0), (5, .ptr 2 0), (6, .ptr 3 0), (9, .ptr 4 0)] [] [(4, [.int .i64 m.o, .int .i64 m.l, .int .i64 m.u, .int .i64 m.n, .sl 19 m.v.length (List.flatMap blC m.v)]), (3, [.int .i64 0, .int .i64 0, .int .i64 0, .int .i64 0, .nils, .int .i64 0]), (2, (.int .i64 v.h :: .int .i64 v.t :: .bool v.y :: v.s.map bD)), (1, [.int .i64 m.o, .int .i64 m.l, .int .i64 m.u, .int .i64 m.n, .sl 19 m.v.length (List.flatMap blC m.v)]), (0, [.sl 1 c.hs.length (c.hs.map (D.int .i64)), .sl 1 c.ss.length (c.ss.map D.str), .int .i64 c.nd, .int .i64 c.bd])] (by decide +kernel) ?_
    (simp -dsimp only [↓z_wkE_cons, ↓lkW_cons, Nat.reduceEqDiff, ↓reduceIte, Nat.zero_add, Nat.reduceAdd, ↓z_wkE_nil, and_self, ↓z_wkO_cons, ↓lkoW_cons, reduceCtorEq, ↓z_wkO_nil, ↓z_nmTE_cons, ↓z_nmT_ptr, not_false_eq_true, ↓z_nmT_nil, ↓z_nmTE_nil, ↓z_noEs_cons, ↓z_noE_cons, ↓z_noE_nil, ↓z_noEs_nil, ↓z_inE_nil, List.take_succ_cons, List.take_zero, ↓z_drc_buildSlice, ↓z_nbW_cons, ↓z_nbW_nil, ↓z_drcS, ↓z_grd_none, ↓z_withE, ↓z_mpO_nil, ↓z_ap_nil, ↓z_apO_cons, ↓z_apO_nil, ↓z_or_buildSlice, ↓z_buildSlice, ↓y_ty32, ↓z_slTy, ↓y_sz41, Nat.zero_mul, Nat.reduceLeDiff, maxLen_lit, ↓y_zr41, List.length_cons, List.length_nil, ↓z_repL_0, ↓z_bld_nil, ↓z_allP_nil, and_true, true_and, ↓z_exD_all, ↓z_exD_all2, ↓z_exD_eq, ↓z_nmT_slx, ↓z_put, Nat.reduceLT, ↓z_drcK, ↓z_drc_fieldAddr, ↓z_rd_tmp, ↓z_rd_nil, ↓z_ap_cons, ↓z_or_fieldAddr, ↓z_fieldAddr, ↓evW_tmp, ↓y_fl34x4, ↓y_sz32, ne_eq, ↓z_fa_ptr, ↓z_drc_load, ↓z_or_load, ↓z_load, ↓z_agTy_sl, ↓loadW_ptr, ↓z_rd_f, ↓nthW_cons, Nat.reduceSub, ↓z_nmT_sl, ↓z_drc_callb_app, ↓z_putF_some, ↓z_dstP_some, ↓y_ty41, ↓z_agTy_st, ↓z_rd_t, List.length_map, ↓z_sub_c, ↓z_sub_map, List.drop_zero, ↓z_exD_and, ↓z_nmT_oag, ↓z_nmTS_int, ↓z_nmTS_bool, ↓z_mpO_cons, ↓z_ap_app, Nat.reduceMul, ↓z_repL_s, ↓z_cat_nil_r, ↓z_bld_cons, ↓z_cl_oag, List.length_take, ↓spsW_cons, ↓drW_cons, ↓drW_nil, ↓z_allP_cons, ↓z_isP_int, ↓z_isP_bool, ↓z_allP_bytes, ↓z_drc_nil])
    refine ⟨by omega, nmTS_bD _ _, by omega, ?_⟩
    refine ch_mk [(34, .slx 19 0 []), (36, .sl 19 m.v.length (List.flatMap blC m.v))] (.osl 5 19 m.v.length) (some 5) 6 [(5, List.flatMap blC m.v), (4, [.int .i64 m.o, .int .i64 m.l, .int .i64 m.u, .int .i64 m.n, .sl 19 m.v.length (List.flatMap blC m.v)]), (3, [.int .i64 0, .int .i64 0, .int .i64 0, .int .i64 0, .nils, .int .i64 0]), (2, (.int .i64 v.h :: .int .i64 v.t :: .bool v.y :: v.s.map bD)), (1, [.int .i64 m.o, .int .i64 m.l, .int .i64 m.u, .int .i64 m.n, .sl 19 m.v.length (List.flatMap blC m.v)]), (0, [.sl 1 c.hs.length (c.hs.map (D.int .i64)), .sl 1 c.ss.length (c.ss.map D.str), .int .i64 c.nd, .int .i64 c.bd])] [(37, .osl 5 19 m.v.length)] rfl rfl (by simp) (by simp [ebW]) rfl (fun E => ?_) ?_
    · (simp -dsimp only [↓z_ap_cons, ↓z_ap_nil, ↓z_callb, ↓z_evL_cons, ↓evW_tmp, ↓lkW_cons, ↓reduceIte, Nat.reduceEqDiff, ↓z_evL_nil, ↓z_append, ↓y_ty32, ↓z_slTy, ↓z_nint_sl, ↓y_sz41, ↓y_by41, ↓y_zr41, List.length_cons, List.length_nil, Nat.zero_add, Nat.reduceAdd, ↓z_src_sl, ↓z_app_slx, ↓z_room, maxLen_lit, ↓z_new, ↓z_nm_cons, ↓z_nmC_cons, ↓z_mn'_int, ↓z_mn'_sl, ↓z_nmC_nil, and_self, ↓z_mn'_nils, ↓z_mn'_bool, ↓z_nmC_bytes, ↓z_nm_nil, Nat.reduceLT, ↓z_pg_cons, ↓z_mn_slx, ↓z_mn_sl, true_and, List.nil_append, reduceCtorEq, false_and, or_false]); (try simp only [Int.toNat_natCast, Nat.mul_one, Bool.or_false, Bool.false_or, Bool.or_self, Bool.or_true])
      exact ⟨by omega, by omega, .inl (by simp [pgW, pE, purge, mn])⟩
    (simp -dsimp only [↓z_wkE_cons, ↓lkW_cons, Nat.reduceEqDiff, ↓reduceIte, ↓z_wkE_nil, and_self, ↓z_inE_cons, ↓z_memW_cons, ↓z_inE_nil, ↓z_wkO_cons, ↓lkoW_cons, reduceCtorEq, ↓z_wkO_nil, true_and])
    refine ch_mk [(39, .slx 19 1 (.int .i64 v.h :: .int .i64 v.t :: .bool v.y :: (v.s.take 16).map bD))] (.osl 5 19 (m.v.length + 1)) (some 5) 6 [(5, List.flatMap blC m.v ++ (.int .i64 v.h :: .int .i64 v.t :: .bool v.y :: (v.s.take 16).map bD)), (4, [.int .i64 m.o, .int .i64 m.l, .int .i64 m.u, .int .i64 m.n, .sl 19 m.v.length (List.flatMap blC m.v)]), (3, [.int .i64 0, .int .i64 0, .int .i64 0, .int .i64 0, .nils, .int .i64 0]), (2, (.int .i64 v.h :: .int .i64 v.t :: .bool v.y :: v.s.map bD)), (1, [.int .i64 m.o, .int .i64 m.l, .int .i64 m.u, .int .i64 m.n, .sl 19 m.v.length (List.flatMap blC m.v)]), (0, [.sl 1 c.hs.length (c.hs.map (D.int .i64)), .sl 1 c.ss.length (c.ss.map D.str), .int .i64 c.nd, .int .i64 c.bd])] [(40, .osl 5 19 (m.v.length + 1))] rfl rfl (by simp) (by simp [ebW]) rfl (fun E => ?_) ?_
    · (simp -dsimp only [↓z_ap_cons, ↓z_ap_nil, ↓z_callb, ↓z_evL_cons, ↓evW_tmp, ↓lkW_cons, ↓reduceIte, Nat.reduceEqDiff, ↓z_evL_nil, ↓z_append, ↓y_ty32, ↓z_slTy, ↓z_nint_sl, ↓y_sz41, ↓y_by41, ↓y_zr41, List.length_cons, List.length_nil, Nat.zero_add, Nat.reduceAdd, ↓z_src_slx, ↓z_app_osl, ↓lkoW_cons, bl_len, bl_nmC, Nat.reduceLT, ↓z_room, maxLen_lit, Nat.reduceLeDiff, ↓z_pgo_cons, ↓z_pgc_nm, ↓z_nmC_cons, ↓z_mn'_int, ↓z_mn'_sl, ↓z_nmC_nil, and_self, ↓z_mn'_nils, ↓z_mn'_bool, ↓z_nmC_bytes, ↓z_pgo_nil, ↓z_pg_cons, ↓z_mn_osl, ↓z_mn_slx, ↓z_so_cons, true_and]); (try simp only [Int.toNat_natCast, Nat.mul_one, Bool.or_false, Bool.false_or, Bool.or_self, Bool.or_true])
      exact ⟨by omega, by omega, by simp [pgW, pE, purge, mn]⟩
    (simp -dsimp only [↓z_wkE_cons, ↓lkW_cons, Nat.reduceEqDiff, ↓reduceIte, ↓z_wkE_nil, and_self, ↓z_inE_cons, ↓z_memW_cons, ↓z_inE_nil, ↓z_wkO_cons, ↓lkoW_cons, reduceCtorEq, ↓z_wkO_nil, true_and])
    refine ch_end ?_
    (simp -dsimp only [↓z_ap_cons, ↓z_ap_nil, List.drop_succ_cons, List.drop_zero, ↓z_seq, ↓z_region, ↓z_ops_plain, ↓z_load, ↓y_ty34, ↓y_sz34, ↓z_agTy_st, ↓z_build, ↓y_ty59, ↓z_blTy_st, ↓y_zr59, ↓z_bld_cons, ↓y_fl59x0, Nat.zero_add, List.length_cons, List.length_nil, Nat.reduceAdd, Nat.reduceLeDiff, ↓spsW_cons, ↓reduceIte, ↓drW_cons, reduceCtorEq, Nat.reduceSub, ↓z_bld_nil, ↓z_store, ↓y_sz59, ↓z_put_none, ↓z_ops_nil, ↓z_seq_nrm, ↓z_ret, ↓z_end_rt, resLW, res1W, ↓z_coeL_cons, ↓z_coeL_nil, ↓z_pack1, List.length_append, true_and, ↓z_fieldAddr, ↓evW_tmp, ↓lkW_cons, Nat.reduceEqDiff, ↓y_fl34x4, ↓y_sz32, ne_eq, not_false_eq_true, ↓z_fa_ptr, ↓z_put, Nat.reduceLT, ↓z_cl_osl, ↓z_store_ptr, ↓lkoW_cons, ↓drW_nil, ↓z_cat_nil_r, ↓z_so_cons, ↓loadW_ptr, ↓z_rd_t, ↓z_sub_c, ↓z_sub_nil, ↓z_cl_oag, ↓catW_cons, ↓catW_nil, ↓z_coe_oag, ↓z_coeC_cons, ↓z_coeS_int, ↓z_coeS_osl, ↓z_allP_app, bl_allP, ↓z_allP_cons, ↓z_isP_int, ↓z_isP_bool, ↓z_allP_bytes, and_self, bl_len, List.length_map, List.length_take, ↓z_coeC_nil, D.agg.injEq]); (try simp only [Int.toNat_natCast, Nat.mul_one, Bool.or_false, Bool.false_or, Bool.or_self, Bool.or_true])
    exact ⟨by rfl, by omega, by rw [List.flatMap_append, List.flatMap_cons, List.flatMap_nil, List.append_nil, bl_eq, e16]; rfl⟩
  · rw [if_neg c1] at e0
    rw [no (by omega), e0]
    exact ⟨by rfl, rfl⟩
end Go.Abs

