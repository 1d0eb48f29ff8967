/-
  DOM, fourth walks: domains in new memory.
-/
import Derived.Test.YtffcdocmabefiaaD3
namespace Go.Abs
open Go.Proofs
theorem rk_flS (r : List (Int × Bool)) : ∀ c ∈ List.flatMap rkC r, flS c = true := by
  intro c hc
  obtain ⟨x, _, hx⟩ := List.mem_flatMap.1 hc
  simp only [rkC, List.mem_cons, List.not_mem_nil, or_false] at hx
  rcases hx with rfl | rfl <;> rfl
theorem rk_frC (r : List (Int × Bool)) : frC (List.flatMap rkC r) = True := eq_true (rk_flS r)
theorem rk_allP (r : List (Int × Bool)) : allP (List.flatMap rkC r) = True := eq_true fun c hc => flS_isP (rk_flS r c hc)
theorem rk_nmC (id : Nat) (r : List (Int × Bool)) : nmC id (List.flatMap rkC r) = True := eq_true fun c hc => by
  have := rk_flS r c hc
  cases c <;> first | rfl | (simp [flS] at this)
theorem rk_nmRL (a : Nat) (r : List (Int × Bool)) : nmRL a (List.flatMap rkC r) = True := eq_true fun c hc => nmR_P (flS_isP (rk_flS r c hc))
theorem rk_ltL (a : Nat) (r : List (Int × Bool)) : ltL a (List.flatMap rkC r) = True := eq_true (ltL_P fun c hc => flS_isP (rk_flS r c hc))
theorem rk_mapS (a : Nat) (r : List (Int × Bool)) : List.map (shS a) (List.flatMap rkC r) = List.flatMap rkC r := mapS_P a fun c hc => flS_isP (rk_flS r c hc)
set_option maxRecDepth 100000 in
set_option maxHeartbeats 8000000 in
theorem fn_CloneI (G : Glob) (x : List Int) (hx : x.length ≤ 1000000) : FnS G Try.prog 43 [.sl 1 x.length (x.map (D.int .i64))] 1 x.length (x.map (D.int .i64)) := by
  refine FnS.mk (c := _) Try.func43 rfl rfl Try.ntmps43 Try.results43 ?_
  (simp -dsimp only [bodyW, List.length_cons, List.length_nil, Nat.zero_add, Nat.reduceLeDiff, wfL, ↓z_seq, ↓z_region, ↓z_ops_plain, ↓z_assign, ↓evW_const, ↓constW_nils, ↓z_put, Nat.reduceLT, ↓z_ops_nil, ↓z_seq_nrm, ↓z_move, ↓evW_tmp, ↓lkW_cons, reduceCtorEq, ↓reduceIte, ↓z_lk_env, ↓z_binOp, ↓z_bn_slnil, ↓y_ty22, ↓z_isSl, ↓z_nilW, ↓z_cond, ↓z_cnd, ↓z_gft, ↓z_skip, ↓z_buildSlice, ↓z_slTy, ↓y_sz3, Nat.mul_one, maxLen_lit, ↓y_zr3, ↓z_repL_0, ↓z_bld_nil, ↓z_allP_nil, ↓z_callb, ↓z_evL_cons, Nat.reduceEqDiff, ↓z_evL_nil, ↓z_append, ↓z_nint_sl, ↓y_by3, ↓z_src_sl, ↓z_app_slx, ↓z_room, ↓z_new, ↓z_nm_nil, ↓z_pg_cons, ↓z_mn_sl, ↓z_mn_slx, ↓z_mn_bool, ↓z_mn_nils, ↓z_pg_env, ↓z_pg_env0, ↓z_ret, ↓z_end_rt, resLW, res1W, ↓z_own_osl, ↓lkoW_cons, ↓z_allP_int, List.length_map, and_self, List.nil_append, and_true, ↓z_envF_cons, ↓z_envF_nil, true_and, ↓z_seq_rt, ↓z_own_nils, z_gvar]); (try simp only [Int.toNat_natCast, Nat.mul_one, Bool.or_false, Bool.false_or, Bool.or_self, Bool.or_true])
  intro _
  refine ⟨fun h => ⟨by omega, by omega, .inl trivial⟩, fun h b => ?_⟩
  have e : x = [] := List.eq_nil_of_length_eq_zero (by omega)
  subst e
  exact ⟨fun _ => ⟨rfl, rfl⟩, fun _ => ⟨by simp, by simp, .inl trivial⟩⟩
set_option maxRecDepth 100000 in
set_option maxHeartbeats 8000000 in
theorem fn_CloneR (G : Glob) (r : List (Int × Bool)) (hx : r.length ≤ 1000000) : FnS G Try.prog 44 [.sl 2 r.length (List.flatMap rkC r)] 2 r.length (List.flatMap rkC r) := by
  refine FnS.mk (c := _) Try.func44 rfl rfl Try.ntmps44 Try.results44 ?_
  (simp -dsimp only [bodyW, List.length_cons, List.length_nil, Nat.zero_add, Nat.reduceLeDiff, wfL, ↓z_seq, ↓z_region, ↓z_ops_plain, ↓z_assign, ↓evW_const, ↓constW_nils, ↓z_put, Nat.reduceLT, ↓z_ops_nil, ↓z_seq_nrm, ↓z_move, ↓evW_tmp, ↓lkW_cons, reduceCtorEq, ↓reduceIte, ↓z_lk_env, ↓z_binOp, ↓z_bn_slnil, ↓y_ty23, ↓z_isSl, ↓z_nilW, ↓z_cond, ↓z_cnd, ↓z_gft, ↓z_skip, ↓z_buildSlice, ↓z_slTy, ↓y_sz56, Nat.zero_mul, maxLen_lit, ↓y_zr56, Nat.reduceAdd, ↓z_repL_0, ↓z_bld_nil, ↓z_allP_nil, ↓z_callb, ↓z_evL_cons, Nat.reduceEqDiff, ↓z_evL_nil, ↓z_append, ↓z_nint_sl, ↓y_by56, ↓z_src_sl, ↓z_app_slx, ↓z_room, ↓z_new, ↓z_nm_nil, ↓z_pg_cons, ↓z_mn_sl, ↓z_mn_slx, ↓z_mn_bool, ↓z_mn_nils, ↓z_pg_env, ↓z_pg_env0, ↓z_ret, ↓z_end_rt, resLW, res1W, ↓z_own_osl, ↓lkoW_cons, rk_allP, rk_len, and_self, List.nil_append, and_true, ↓z_envF_cons, ↓z_envF_nil, true_and, ↓z_seq_rt, ↓z_own_nils, z_gvar]); (try simp only [Int.toNat_natCast, Nat.mul_one, Bool.or_false, Bool.false_or, Bool.or_self, Bool.or_true])
  intro _
  refine ⟨fun h => ⟨by omega, by omega, .inl trivial⟩, fun h b => ?_⟩
  have e : r = [] := List.eq_nil_of_length_eq_zero (by omega)
  subst e
  exact ⟨fun _ => ⟨rfl, rfl⟩, fun _ => ⟨by simp, by simp, .inl trivial⟩⟩
set_option maxRecDepth 100000 in
set_option maxHeartbeats 8000000 in
theorem fn_copied (G : Glob) (d : List Int) (r : List (Int × Bool)) (h : List Int) (o : Int) (hd : d.length ≤ 1000000) (hr : r.length ≤ 1000000) (hh : h.length ≤ 1000000) :
    FnO G Try.prog 37 [.agg [.sl 1 d.length (d.map (D.int .i64)), .sl 2 r.length (List.flatMap rkC r), .sl 1 h.length (h.map (D.int .i64)), .int .i64 o]] 5
      (.oag [.osl 2 1 d.length, .osl 3 2 r.length, .osl 4 1 h.length, .int .i64 o]) [(2, d.map (D.int .i64)), (3, List.flatMap rkC r), (4, h.map (D.int .i64))] := by
  refine FnO.mk (c := _) Try.func37 rfl rfl Try.ntmps37 Try.results37 ?_
  (simp -dsimp only [bodyW, List.length_cons, List.length_nil, Nat.zero_add, Nat.reduceLeDiff, wfL, ↓z_seq, ↓z_region, ↓z_ops_plain, ↓z_box, ↓evW_tmp, ↓z_lk_env, ↓reduceIte, ↓z_cl_agg, ↓z_nmC_cons, ↓z_mn'_sl, ↓z_mn'_int, ↓z_nmC_nil, and_self, ↓z_new, ↓z_nm_nil, Nat.reduceLT, ↓z_pg_env, ↓z_mn_agg, ↓z_pg_env0, ↓z_put, ↓z_alloc, ↓y_zr25, ↓z_nm_cons, ↓z_pg_cons, ↓z_mn_ptr, reduceCtorEq, ↓z_pg_nil, ↓z_ops_nil, ↓z_seq_nrm, ↓z_region_d, ↓y_mix, true_and])
  intro hb
  refine rgn_x 11 [] (by decide +kernel) ?_
  (simp -dsimp only [↓z_nmRE_cons, ↓z_nmR_ptr, Nat.zero_add, Nat.reduceAdd, Nat.reduceLT, Nat.reduceLeDiff, or_false, ↓z_nmR_agg, ↓z_nmRE_nil, and_self, ↓z_nmRO_cons, ↓z_nmRL_cons, ↓z_nmR_nils, ↓z_nmR_int, ↓z_nmRL_nil, ↓z_nmR_sl, ↓z_nmRO_nil, ↓z_splitO_cons, List.not_mem_nil, ↓reduceIte, ↓z_splitO_nil, List.take_succ_cons, List.take_zero, List.drop_succ_cons, List.drop_zero, ↓z_ret, ↓z_end_rt, resLW, res1W, ↓y_ty25, ↓y_sz25, ↓z_agTy_st, List.cons.injEq, and_true, ↓z_wkO_cons, ↓z_wkO_nil, ↓z_ops_plain, ↓z_build, ↓z_blTy_st, ↓y_zr25, ↓z_bld_cons, ↓y_fl25x0, ↓y_sz22, ↓evW_tmp, List.length_cons, List.length_nil, ↓spsW_cons, ↓drW_cons, reduceCtorEq, Nat.reduceSub, ↓y_fl25x1, ↓y_sz23, ↓y_fl25x2, ↓y_fl25x3, ↓y_sz3, ↓z_bld_nil, ↓z_put, ↓z_store, ↓lkW_cons, Nat.reduceEqDiff, ↓z_cl_oag, ↓z_put_none, ↓z_ops_nil, ↓z_seq_nrm, true_and, z_sps, List.length_append, List.length_take, List.length_drop, ↓z_drx_fieldAddr, ↓z_drxS, ↓z_grd_none, ↓z_withE, ↓z_rd_tmp, ↓z_rd_nil, ↓z_ap_cons, ↓z_ap_nil, ↓z_apO_cons, ↓z_apO_nil, ↓z_fieldAddr, ne_eq, not_false_eq_true, ↓z_fa_ptr, ↓z_exD_all, ↓z_exD_all2, ↓z_exD_eq, ↓z_drxK, ↓z_drx_load, ↓z_load, ↓y_ty22, ↓z_agTy_sl, ↓loadW_ptr, ↓lkoW_cons, ↓z_rd_f, ↓nthW_cons, ↓z_drx_callv]); (try simp only [Int.toNat_natCast, Nat.mul_one, Bool.or_false, Bool.false_or, Bool.or_self, Bool.or_true])
  refine cv_new (.osl 2 1 d.length) (d.map (D.int .i64)) (fun i _ _ h3 => by simp [mn]; omega) ?_
  (simp -dsimp only [Nat.reduceLT, ↓z_rd_func, ↓z_rd_tmp, ↓lkW_cons, ↓reduceIte, ↓z_rd_nil, ↓z_nmRL_int, ↓z_ap_cons, ↓z_ap_nil, ↓z_apO_cons, ↓z_apO_nil, ↓z_callv, ↓evW_func, ↓z_evL_cons, ↓evW_tmp, ↓z_evL_nil, ↓z_fun0, ↓z_coeL_cons, ↓z_coe_sl, ↓z_coeL_nil, ↓z_drx_fieldAddr, ↓z_drxS, ↓z_grd_none, ↓z_withE, Nat.reduceEqDiff, ↓z_fieldAddr, ↓y_fl25x1, ↓y_sz23, ne_eq, reduceCtorEq, not_false_eq_true, ↓z_fa_ptr, Nat.zero_add, and_true, true_and, ↓z_exD_all, ↓z_exD_all2, ↓z_exD_eq, ↓z_nmR_ptr, Nat.reduceLeDiff, or_false, ↓z_put, ↓z_drxK, ↓z_drx_load, ↓z_load, ↓y_ty23, ↓z_agTy_sl, ↓loadW_ptr, ↓lkoW_cons, ↓z_rd_f, ↓nthW_cons, Nat.reduceSub, ↓z_nmR_sl, ↓z_drx_callv]); (try simp only [Int.toNat_natCast, Nat.mul_one, Bool.or_false, Bool.false_or, Bool.or_self, Bool.or_true])
  refine ⟨fun E X hX => ?_, ?_⟩
  · refine call_own (fn_CloneI G d hd) fun _ => ?_
    (simp -dsimp only [↓z_new, ↓z_nm_cons, ↓z_nmC_cons, ↓z_mn'_nils, ↓z_mn'_int, ↓z_nmC_nil, and_self, ↓z_mn'_sl, ↓z_pg_cons, ↓z_mn_sl, Nat.reduceAdd, true_and, hX]); (try simp only [Int.toNat_natCast, Nat.mul_one, Bool.or_false, Bool.false_or, Bool.or_self, Bool.or_true])
    simp [pgW, purge, mn]
  refine cv_new (.osl 3 2 r.length) (List.flatMap rkC r) (fun i _ _ h3 => by simp [mn]; omega) ?_
  (simp -dsimp only [Nat.reduceAdd, Nat.reduceLT, ↓z_rd_func, ↓z_rd_tmp, ↓lkW_cons, ↓reduceIte, ↓z_rd_nil, rk_nmRL, ↓z_ap_cons, ↓z_ap_nil, ↓z_apO_cons, ↓z_apO_nil, ↓z_callv, ↓evW_func, ↓z_evL_cons, ↓evW_tmp, ↓z_evL_nil, ↓z_fun0, ↓z_coeL_cons, ↓z_coe_sl, ↓z_coeL_nil, ↓z_drx_fieldAddr, ↓z_drxS, ↓z_grd_none, ↓z_withE, Nat.reduceEqDiff, ↓z_fieldAddr, ↓y_fl25x2, ↓y_sz22, ne_eq, reduceCtorEq, not_false_eq_true, ↓z_fa_ptr, Nat.zero_add, and_true, true_and, ↓z_exD_all, ↓z_exD_all2, ↓z_exD_eq, ↓z_nmR_ptr, Nat.reduceLeDiff, or_false, ↓z_put, ↓z_drxK, ↓z_drx_load, ↓z_load, ↓y_ty22, ↓z_agTy_sl, ↓loadW_ptr, ↓lkoW_cons, ↓z_rd_f, ↓nthW_cons, Nat.reduceSub, ↓z_nmR_sl, ↓z_drx_callv]); (try simp only [Int.toNat_natCast, Nat.mul_one, Bool.or_false, Bool.false_or, Bool.or_self, Bool.or_true])
  refine ⟨fun E X hX => ?_, ?_⟩
  · refine call_own (fn_CloneR G r hr) fun _ => ?_
    (simp -dsimp only [↓z_new, ↓z_nm_cons, ↓z_nmC_cons, ↓z_mn'_nils, ↓z_mn'_int, ↓z_nmC_nil, and_self, ↓z_mn'_sl, Nat.reduceAdd, ↓z_pg_cons, ↓z_mn_sl, true_and, hX]); (try simp only [Int.toNat_natCast, Nat.mul_one, Bool.or_false, Bool.false_or, Bool.or_self, Bool.or_true])
    simp [pgW, purge, mn]
  refine cv_new (.osl 4 1 h.length) (h.map (D.int .i64)) (fun i _ _ h3 => by simp [mn]; omega) ?_
  (simp -dsimp only [Nat.reduceAdd, Nat.reduceLT, ↓z_rd_func, ↓z_rd_tmp, ↓lkW_cons, ↓reduceIte, ↓z_rd_nil, ↓z_nmRL_int, ↓z_ap_cons, ↓z_ap_nil, ↓z_apO_cons, ↓z_apO_nil, ↓z_callv, ↓evW_func, ↓z_evL_cons, ↓evW_tmp, ↓z_evL_nil, ↓z_fun0, ↓z_coeL_cons, ↓z_coe_sl, ↓z_coeL_nil, ↓z_drx_fieldAddr, ↓z_drxS, ↓z_grd_none, ↓z_withE, Nat.reduceEqDiff, ↓z_fieldAddr, ↓y_fl25x3, ↓y_sz3, ne_eq, reduceCtorEq, not_false_eq_true, ↓z_fa_ptr, Nat.zero_add, and_true, true_and, ↓z_exD_all, ↓z_exD_all2, ↓z_exD_eq, ↓z_nmR_ptr, Nat.reduceLeDiff, or_false, ↓z_put, ↓z_drxK, ↓z_drx_load, ↓z_load, ↓y_ty3, ↓z_agTy_int, ↓loadW_ptr, ↓lkoW_cons, ↓z_rd_f, ↓nthW_cons, Nat.reduceSub, ↓z_nmR_int, ↓z_drx_nil, ↓z_cl_osl, List.length_cons, List.length_nil, ↓catW_cons, ↓catW_nil, ↓z_cl_int, ↓z_store_ptr, ↓spsW_cons, ↓drW_cons, ↓drW_nil, ↓z_cat_nil_r, ↓z_so_cons, List.take_succ_cons, List.take_zero, List.drop_succ_cons, List.drop_zero, and_self, ↓z_rd_t, List.length_append, List.length_take, List.length_drop, z_sub]); (try simp only [Int.toNat_natCast, Nat.mul_one, Bool.or_false, Bool.false_or, Bool.or_self, Bool.or_true])
  refine ⟨fun E X hX => ?_, ?_⟩
  · refine call_own (fn_CloneI G h hh) fun _ => ?_
    (simp -dsimp only [↓z_new, ↓z_nm_cons, ↓z_nmC_cons, ↓z_mn'_nils, ↓z_mn'_int, ↓z_nmC_nil, and_self, ↓z_mn'_sl, Nat.reduceAdd, ↓z_pg_cons, ↓z_mn_sl, true_and, hX]); (try simp only [Int.toNat_natCast, Nat.mul_one, Bool.or_false, Bool.false_or, Bool.or_self, Bool.or_true])
    simp [pgW, purge, mn]
  exact ⟨rfl, by decide, by decide, by decide, rfl⟩
set_option maxRecDepth 100000 in
set_option maxHeartbeats 8000000 in
theorem fn_Copy (G : Glob) (d : List Int) (r : List (Int × Bool)) (h : List Int) (o : Int) (hd : d.length ≤ 1000000) (hr : r.length ≤ 1000000) (hh : h.length ≤ 1000000) :
    FnO G Try.prog 38 [.agg [.sl 1 d.length (d.map (D.int .i64)), .sl 2 r.length (List.flatMap rkC r), .sl 1 h.length (h.map (D.int .i64)), .int .i64 o]] 6
      (.oag [.osl 3 1 d.length, .osl 4 2 r.length, .osl 5 1 h.length, .int .i64 o]) [(3, d.map (D.int .i64)), (4, List.flatMap rkC r), (5, h.map (D.int .i64))] := by
  refine FnO.mk (c := _) Try.func38 rfl rfl Try.ntmps38 Try.results38 ?_
  (simp -dsimp only [bodyW, List.length_cons, List.length_nil, Nat.zero_add, Nat.reduceLeDiff, wfL, ↓z_seq, ↓z_region, ↓z_ops_plain, ↓z_box, ↓evW_tmp, ↓z_lk_env, ↓reduceIte, ↓z_cl_agg, ↓z_nmC_cons, ↓z_mn'_sl, ↓z_mn'_int, ↓z_nmC_nil, and_self, ↓z_new, ↓z_nm_nil, Nat.reduceLT, ↓z_pg_env, ↓z_mn_agg, ↓z_pg_env0, ↓z_put, ↓z_alloc, ↓y_zr25, ↓z_nm_cons, ↓z_pg_cons, ↓z_mn_ptr, reduceCtorEq, ↓z_pg_nil, ↓z_ops_nil, ↓z_seq_nrm, ↓z_fieldAddr, ↓lkW_cons, Nat.reduceEqDiff, ↓y_fl25x3, ↓y_sz3, ne_eq, not_false_eq_true, ↓z_fa_ptr, ↓z_load, ↓y_ty3, ↓z_agTy_int, ↓loadW_ptr, ↓lkoW_cons, ↓z_rd_f, ↓nthW_cons, Nat.reduceSub, ↓z_build, ↓y_ty25, ↓z_blTy_st, ↓z_bld_cons, ↓z_cl_int, Nat.reduceAdd, ↓spsW_cons, ↓drW_cons, ↓drW_nil, ↓z_cat_nil_r, ↓z_bld_nil, ↓z_mn'_nils, ↓z_mn_oag, ↓z_mnL_nils, ↓z_mnL_int, ↓z_mnL_nil, ↓z_mn_int, ↓z_store, ↓y_sz25, ↓z_cl_oag, ↓z_store_ptr, ↓z_so_cons, ↓z_put_none, ↓y_fl25x0, ↓y_sz22, ↓y_ty22, ↓z_agTy_sl, ↓z_callb, ↓z_evL_cons, ↓z_evL_nil, ↓z_append, ↓z_slTy, ↓z_nint_sl, ↓y_by3, ↓y_zr3, ↓z_src_sl, ↓z_app_nils, ↓z_room, maxLen_lit, ↓z_mn_sl, ↓z_mn_nils, ↓z_cl_osl, ↓catW_cons, ↓catW_nil, ↓y_fl25x1, ↓y_sz23, ↓y_ty23, ↓y_sz56, ↓y_by56, ↓y_zr56, ↓z_nmC_int, ↓z_mn'_osl, ↓z_mn_osl, ↓y_fl25x2, rk_nmC, ↓z_agTy_st, ↓z_rd_t, ↓z_sub_c, ↓z_sub_nil, ↓z_ret, ↓z_end_rt, resLW, res1W, List.cons.injEq, and_true, ↓z_wkO_cons, ↓z_wkO_nil, true_and]); (try simp only [Int.toNat_natCast, Nat.mul_one, Bool.or_false, Bool.false_or, Bool.or_self, Bool.or_true])
  exact fun _ => ⟨rfl, by omega, by omega, by omega, by omega, by omega, by omega⟩
set_option maxRecDepth 100000 in
set_option maxHeartbeats 8000000 in
theorem fn_Few (G : Glob) (d : List Int) (r : List (Int × Bool)) (h : List Int) (o : Int) (m : Int) : Fn G Try.prog 7 [.agg [.sl 1 d.length (d.map (D.int .i64)), .sl 2 r.length (List.flatMap rkC r), .sl 1 h.length (h.map (D.int .i64)), .int .i64 o], .int .i64 m] (.bool (decide ((d.length : Int) ≤ m ∧ (r.length : Int) ≤ m ∧ (h.length : Int) ≤ m))) := by
  refine Fn.mk (c := _) Try.func7 rfl rfl Try.ntmps7 Try.results7 ?_
  (simp -dsimp only [bodyW, List.length_cons, List.length_nil, Nat.zero_add, Nat.reduceAdd, Nat.reduceLeDiff, wfL, ↓z_seq, ↓z_region, ↓z_ops_plain, ↓z_box, ↓evW_tmp, ↓z_lk_env, ↓reduceIte, ↓z_cl_agg, ↓z_nmC_cons, ↓z_mn'_sl, ↓z_mn'_int, ↓z_nmC_nil, and_self, ↓z_new, ↓z_nm_nil, Nat.reduceLT, ↓z_pg_env, ↓z_mn_agg, ↓z_mn_int, ↓z_pg_env0, ↓z_put, ↓z_assign, ↓evW_const, ↓constW_bool, ↓z_ops_nil, ↓z_seq_nrm, ↓z_fieldAddr, ↓lkW_cons, Nat.reduceEqDiff, ↓y_fl25x0, ↓y_sz22, ne_eq, reduceCtorEq, not_false_eq_true, ↓z_fa_ptr, ↓z_load, ↓y_ty22, ↓z_agTy_sl, ↓loadW_ptr, ↓lkoW_cons, ↓z_rd_f, ↓nthW_cons, ↓z_callb, ↓z_evL_cons, ↓z_evL_nil, ↓z_len, ↓z_ln_sl, ↓z_move, ↓z_binOp, ↓z_bn_leq, ↓z_ops_guard, ↓z_grd, ↓z_dst_s, ↓z_dst_0, ↓z_grdD_b, ↓z_gdt, ↓y_fl25x1, ↓y_sz23, ↓z_gtt, ↓y_ty23, Nat.reduceSub, ↓z_pick, ↓z_pick_b, ↓y_fl25x2, ↓z_ret, ↓z_end_rt, resLW, res1W, ↓z_coeL_cons, ↓z_coeL_nil, ↓z_pack1, ↓z_coe_bool, D.bool.injEq, true_and, ↓z_gnt, ↓z_gtf, Bool.not_true, z_ite, ↓z_gft]); (try simp only [Int.toNat_natCast, Nat.mul_one, Bool.or_false, Bool.false_or, Bool.or_self, Bool.or_true])
  exact fun _ _ => ⟨fun h1 => ⟨fun h2 => by simp [h1, h2], fun h2 => by simp [h2]⟩, fun h1 => by simp [h1]⟩
set_option maxRecDepth 100000 in
set_option maxHeartbeats 8000000 in
theorem fn_example (G : Glob) : Fn G Try.prog 28 [] (.agg [.sl 1 4 [.int .i64 0, .int .i64 0, .int .i64 1, .int .i64 2], .sl 2 3 [.int .i64 0, .bool false, .int .i64 0, .bool false, .int .i64 1, .bool true], .sl 1 2 [.int .i64 0, .int .i64 1], .int .i64 2]) := by
  refine Fn.outW (d' := .agg [.slx 1 4 [.int .i64 0, .int .i64 0, .int .i64 1, .int .i64 2], .slx 2 3 [.int .i64 0, .bool false, .int .i64 0, .bool false, .int .i64 1, .bool true], .slx 1 2 [.int .i64 0, .int .i64 1], .int .i64 2]) ?_ (.agg (.cons (.slx ..) (.cons (.slx ..) (.cons (.slx ..) (.cons (.refl _) .nil)))))
  refine Fn.mk (c := _) Try.func28 rfl rfl Try.ntmps28 Try.results28 ?_
  (simp -dsimp only [bodyW, List.length_nil, Nat.reduceLeDiff, wfL, ↓z_seq, ↓z_region, ↓z_ops_plain, ↓z_alloc, ↓y_zr25, ↓z_new, ↓z_nm_nil, Nat.reduceLT, ↓z_pg_env0, ↓z_put, ↓z_ops_nil, ↓z_seq_nrm, ↓z_buildSlice, ↓y_ty22, ↓z_slTy, ↓y_sz3, Nat.mul_one, maxLen_lit, ↓y_zr3, List.length_cons, Nat.zero_add, ↓z_repL_s, ↓z_repL_0, ↓z_cat_nil_r, ↓catW_cons, ↓catW_nil, ↓z_bld_cons, ↓evW_const, ↓constW_int, inR_i64, Int.reduceNeg, Int.reduceLE, and_self, ↓z_cl_int, Nat.reduceAdd, ↓spsW_cons, ↓reduceIte, ↓drW_cons, reduceCtorEq, Nat.reduceSub, ↓drW_nil, ↓z_bld_nil, ↓z_allP_cons, ↓z_isP_int, ↓z_allP_nil, ↓z_build, ↓y_ty56, ↓z_blTy_st, ↓y_zr56, ↓y_fl56x0, ↓y_fl56x1, ↓y_sz4, ↓constW_bool, ↓z_cl_bool, ↓y_ty23, ↓y_sz56, Nat.reduceMul, ↓evW_tmp, ↓lkW_cons, Nat.reduceEqDiff, ↓z_cl_oag, Nat.zero_mul, ↓z_isP_bool, ↓y_ty25, ↓y_fl25x0, ↓y_sz22, ↓z_cl_slx, ↓y_fl25x1, ↓y_sz23, ↓y_fl25x2, ↓y_fl25x3, ↓z_store, ↓y_sz25, ↓z_store_ptr, ↓lkoW_cons, ↓z_so_cons, ↓z_put_none, ↓z_ret, ↓z_end_rt, resLW, res1W, ↓z_agTy_st, ↓z_coeL_cons, ↓z_coeL_nil, ↓z_pack1, ↓loadW_ptr, ↓z_rd_t, ↓z_sub_c, ↓z_sub_nil, ↓z_coe_oag, ↓z_coeC_cons, ↓z_coeS_slx, ↓z_coeS_int, ↓z_coeC_nil, and_true, true_and]); (try simp only [Int.toNat_natCast, Nat.mul_one, Bool.or_false, Bool.false_or, Bool.or_self, Bool.or_true])
  exact ⟨rfl, rfl, rfl, rfl⟩
/-- What a sale gives: the houses' owners; an error. -/
def sellE (d : List Int) (r : List (Int × Bool)) (h : List Int) (o house owner : Int) : Int :=
  if chk d r h o ≠ 0 then 1 else if house < 0 ∨ h.length ≤ house ∨ owner < 0 ∨ o ≤ owner then 8 else 0
/-- .. a journey: an error. -/
def shipE (d : List Int) (r : List (Int × Bool)) (h : List Int) (o rack house : Int) : Int :=
  if chk d r h o ≠ 0 then 1 else if rack < 0 ∨ r.length ≤ rack ∨ house < 0 ∨ h.length ≤ house then 8 else if (r.getD rack.toNat (0, false)).2 = false then 4 else 0
def domA (d : List Int) (r : List (Int × Bool)) (h : List Int) (o : Int) : List D := [.sl 1 d.length (d.map (D.int .i64)), .sl 2 r.length (List.flatMap rkC r), .sl 1 h.length (h.map (D.int .i64)), .int .i64 o]
def noA : List D := [.sl 1 0 [], .sl 2 0 [], .sl 1 0 [], .int .i64 0]
def soldA (d : List Int) (r : List (Int × Bool)) (h : List Int) (o house owner : Int) : List D := if sellE d r h o house owner = 0 then domA d r (h.set house.toNat owner) o else noA
def shipA (d : List Int) (r : List (Int × Bool)) (h : List Int) (o rack house : Int) : List D := if shipE d r h o rack house = 0 then domA d (r.set rack.toNat (house, (r.getD rack.toNat (0, false)).2)) h o else noA
def noR : List D := [.nils, .nils, .nils, .int .i64 0]
theorem noR_W : LW noR noA := .cons (.nils _) (.cons (.nils _) (.cons (.nils _) (.cons (.refl _) .nil)))
theorem tup_rep {w : World} {F : Nat → Prop} {v : Value} {x x' : List D} {e : D} (hw : LW x' x) (h : RepR w F v (.tup [.agg x', e])) : RepR w F v (.tup [.agg x, e]) := by
  cases h with
  | tup a b =>
    refine .tup a fun i v d hv hd => ?_
    match i, hd with
    | 0, hd => simp at hd; subst hd; exact (DW.agg hw).rep (b 0 v _ hv rfl)
    | 1, hd => simp at hd; subst hd; exact b 1 v _ hv rfl
theorem FnF.outT {G : Glob} {P : Program} {f : FuncId} {ds : List D} {x x' : List D} {e : D} (h : FnF G P f ds (.tup [.agg x', e])) (hw : LW x' x) : FnF G P f ds (.tup [.agg x, e]) :=
  ⟨h.1, fun b0 vs hG hL ha => (h.2 b0 vs hG hL ha).mono fun _ _ ⟨v, h1, h2, h3⟩ => ⟨v, h1, tup_rep hw h2, h3⟩⟩
theorem LW.rfl' : ∀ {x : List D}, LW x x
  | [] => .nil
  | _ :: _ => .cons (.refl _) LW.rfl'
theorem LW.same {x y : List D} (h : x = y) : LW x y := h ▸ LW.rfl'
theorem outS {d : List Int} {r : List (Int × Bool)} {h : List Int} {o a b : Int} : LW (if sellE d r h o a b = 0 then domA d r (h.set a.toNat b) o else noR) (soldA d r h o a b) := by
  unfold soldA; split
  · exact LW.rfl'
  · exact noR_W
theorem outP {d : List Int} {r : List (Int × Bool)} {h : List Int} {o a b : Int} : LW (if shipE d r h o a b = 0 then domA d (r.set a.toNat (b, (r.getD a.toNat (0, false)).2)) h o else noR) (shipA d r h o a b) := by
  unfold shipA; split
  · exact LW.rfl'
  · exact noR_W
theorem sellE_8 {d : List Int} {r : List (Int × Bool)} {h : List Int} {o a b : Int} (h0 : chk d r h o = 0) (h1 : a < 0 ∨ h.length ≤ a ∨ b < 0 ∨ o ≤ b) : sellE d r h o a b = 8 := by
  unfold sellE; rw [if_neg (by omega), if_pos h1]
theorem sellE_0 {d : List Int} {r : List (Int × Bool)} {h : List Int} {o a b : Int} (h0 : chk d r h o = 0) (h1 : ¬ (a < 0 ∨ h.length ≤ a ∨ b < 0 ∨ o ≤ b)) : sellE d r h o a b = 0 := by
  unfold sellE; rw [if_neg (by omega), if_neg h1]
theorem sellE_1 {d : List Int} {r : List (Int × Bool)} {h : List Int} {o a b : Int} (h0 : chk d r h o ≠ 0) : sellE d r h o a b = 1 := by
  unfold sellE; rw [if_pos h0]
theorem shipE_8 {d : List Int} {r : List (Int × Bool)} {h : List Int} {o a b : Int} (h0 : chk d r h o = 0) (h1 : a < 0 ∨ r.length ≤ a ∨ b < 0 ∨ h.length ≤ b) : shipE d r h o a b = 8 := by
  unfold shipE; rw [if_neg (by omega), if_pos h1]
theorem shipE_4 {d : List Int} {r : List (Int × Bool)} {h : List Int} {o a b : Int} (h0 : chk d r h o = 0) (h1 : ¬ (a < 0 ∨ r.length ≤ a ∨ b < 0 ∨ h.length ≤ b)) (h2 : (r.getD a.toNat (0, false)).2 = false) : shipE d r h o a b = 4 := by
  unfold shipE; rw [if_neg (by omega), if_neg h1, if_pos h2]
theorem shipE_0 {d : List Int} {r : List (Int × Bool)} {h : List Int} {o a b : Int} (h0 : chk d r h o = 0) (h1 : ¬ (a < 0 ∨ r.length ≤ a ∨ b < 0 ∨ h.length ≤ b)) (h2 : (r.getD a.toNat (0, false)).2 = true) : shipE d r h o a b = 0 := by
  unfold shipE; rw [if_neg (by omega), if_neg h1, if_neg (by rw [h2]; decide)]
theorem shipE_1 {d : List Int} {r : List (Int × Bool)} {h : List Int} {o a b : Int} (h0 : chk d r h o ≠ 0) : shipE d r h o a b = 1 := by
  unfold shipE; rw [if_pos h0]
theorem LW.app {x x' y : List D} (h : LW x x') : LW (x ++ y) (x' ++ y) := by
  match h with
  | .nil => exact LW.rfl'
  | .cons h1 h2 => exact .cons h1 (LW.app h2)
theorem FnF.outU {G : Glob} {P : Program} {f : FuncId} {ds : List D} {x x' : List D} {e : D} (h : FnF G P f ds (.agg (x' ++ [e]))) (hw : LW x' x) : FnF G P f ds (.agg (x ++ [e])) := h.outW (.agg hw.app)
theorem set_int {x : List Int} {i : Nat} {b : Int} (hi : i < x.length) : List.take i (x.map (D.int .i64)) ++ [D.int .i64 b] ++ List.drop (i + 1) (x.map (D.int .i64)) = (x.set i b).map (D.int .i64) := by
  rw [List.map_set, List.set_eq_take_append_cons_drop, if_pos (by simpa using hi)]; simp
theorem set_rk : ∀ {r : List (Int × Bool)} {i : Nat} {b : Int}, i < r.length → List.take (i * 2) (List.flatMap rkC r) ++ [D.int .i64 b] ++ List.drop (i * 2 + 1) (List.flatMap rkC r) = List.flatMap rkC (r.set i (b, (r.getD i (0, false)).2))
  | [], i, b, hi => by simp at hi
  | x :: r, 0, b, _ => by simp [rkC]
  | x :: r, i + 1, b, hi => by
    have ih := set_rk (r := r) (i := i) (b := b) (by simpa using hi)
    have e : (i + 1) * 2 = i * 2 + 1 + 1 := by omega
    rw [e]
    simp only [List.flatMap_cons, rkC, List.cons_append, List.nil_append, List.take_succ_cons, List.drop_succ_cons, List.set_cons_succ, List.getD_cons_succ] at ih ⊢
    rw [← ih]
theorem set_rk' {r : List (Int × Bool)} {i : Nat} {b : Int} (hi : i < r.length) : List.take (i * 2 + 0) (List.flatMap rkC r) ++ [D.int .i64 b] ++ List.drop (i * 2 + 0 + 1) (List.flatMap rkC r) = List.flatMap rkC (r.set i (b, (r.getD i (0, false)).2)) := set_rk hi
set_option maxRecDepth 100000 in
set_option maxHeartbeats 8000000 in
theorem fn_Sell (G : Glob) (d : List Int) (r : List (Int × Bool)) (h : List Int) (o : Int) (a b : Int) : FnF G Try.prog 23 [.agg [.sl 1 d.length (d.map (D.int .i64)), .sl 2 r.length (List.flatMap rkC r), .sl 1 h.length (h.map (D.int .i64)), .int .i64 o], .int .i64 a, .int .i64 b] (.tup [.agg (soldA d r h o a b), .int .i64 (sellE d r h o a b)]) := by
  refine FnF.outT ?_ outS
  refine FnF.mk (c := _) Try.func23 rfl rfl Try.ntmps23 Try.results23 ?_
  (simp -dsimp only [bodyW, List.length_cons, List.length_nil, Nat.zero_add, Nat.reduceAdd, Nat.reduceLeDiff, wfL, ↓z_seq, ↓z_region, ↓z_ops_plain, ↓z_box, ↓evW_tmp, ↓z_lk_env, ↓reduceIte, ↓z_cl_agg, ↓z_nmC_cons, ↓z_mn'_sl, ↓z_mn'_int, ↓z_nmC_nil, and_self, ↓z_new, ↓z_nm_nil, Nat.reduceLT, ↓z_pg_env, ↓z_mn_agg, ↓z_mn_int, ↓z_pg_env0, ↓z_put, ↓z_alloc, ↓y_zr25, ↓z_nm_cons, ↓z_pg_cons, ↓z_mn_ptr, reduceCtorEq, ↓z_pg_nil, ↓z_assign, ↓evW_const, ↓constW_int, inR_i64, Int.reduceNeg, Int.reduceLE, ↓z_ops_nil, ↓z_seq_nrm, ↓z_block, ↓z_load, ↓lkW_cons, Nat.reduceEqDiff, ↓y_ty25, ↓y_sz25, ↓z_agTy_st, ↓loadW_ptr, ↓lkoW_cons, ↓z_rd_t, ↓z_sub_c, ↓z_sub_nil, ↓z_callv, ↓evW_func, ↓z_evL_cons, ↓z_evL_nil, ↓z_fun0, ↓z_coeL_cons, ↓z_coe_oag, ↓z_coeC_cons, ↓z_coeS_sl, ↓z_coeS_int, ↓z_coeC_nil, ↓z_coeL_nil, true_and])
  intro hd _ _
  refine call_fn (fn_Check G d r h o) fun _ => ?_
  (simp -dsimp only [↓z_put, Nat.reduceLT, ↓z_ops_plain, ↓z_binOp, ↓evW_tmp, ↓lkW_cons, ↓reduceIte, ↓evW_const, ↓constW_int, inR_i64, Int.reduceNeg, Int.reduceLE, and_self, ↓z_bn_neq, ↓z_assign, ↓z_ops_nil, ↓z_seq_nrm, ↓z_cond, ↓z_cnd, ↓z_gdt, ne_eq, ↓z_seq, ↓z_region, ↓z_build, ↓y_ty25, ↓z_blTy_st, ↓y_zr25, ↓z_bld_nil, ↓z_store, Nat.reduceEqDiff, ↓y_sz25, ↓z_cl_oag, List.length_cons, List.length_nil, Nat.zero_add, Nat.reduceAdd, ↓z_store_ptr, ↓lkoW_cons, Nat.reduceLeDiff, ↓spsW_cons, ↓drW_cons, reduceCtorEq, Nat.reduceSub, ↓drW_nil, ↓z_cat_nil_r, ↓z_so_cons, ↓z_put_none, ↓z_ret, ↓z_blk_rt, ↓z_seq_rt, ↓z_end_rt, resLW, res1W, ↓z_agTy_st, ↓z_frL_cons, ↓z_frL_nil, and_true, ↓z_coeL_cons, ↓z_coeL_nil, ↓z_pack2, D.tup.injEq, List.cons.injEq, ↓z_fr_int, ↓z_coe_int, D.int.injEq, true_and, ↓loadW_ptr, ↓z_rd_t, ↓z_sub_c, ↓z_sub_nil, ↓z_fr_oag, ↓z_frSL_cons, ↓z_frS_nils, ↓z_frS_int, ↓z_frSL_nil, ↓z_coe_oag, ↓z_coeC_cons, ↓z_coeS_nils, ↓z_coeS_int, ↓z_coeC_nil, D.agg.injEq, ↓z_move, ↓z_bn_lss, ↓z_ops_guard, ↓z_grd, ↓z_dst_s, ↓z_dst_0, ↓z_grdD_b, ↓z_gdf, ↓z_gnf, ↓z_gft, ↓z_pick, ↓z_pick_b, ↓z_gnt, ↓z_gff, ↓constW_bool, ↓z_gtf, ↓z_gtt, Bool.not_false, ↓z_fieldAddr, ↓y_fl25x2, ↓y_sz22, not_false_eq_true, ↓z_fa_ptr, ↓z_load, ↓y_ty22, ↓z_agTy_sl, ↓z_rd_f, ↓nthW_cons, ↓z_callb, ↓z_evL_cons, ↓z_evL_nil, ↓z_len, ↓z_ln_sl, ↓z_bn_geq, ↓y_fl25x3, ↓y_sz3, ↓y_ty3, ↓z_agTy_int, ↓z_skip, ↓z_blk_nrm, ↓z_callv, ↓evW_func, ↓z_fun0, ↓z_coeS_sl, z_ite, Classical.not_not])
  have tE : ∀ z : Int, sellE d r h o a b = z → z ≠ 0 → noR = (if sellE d r h o a b = 0 then domA d r (h.set a.toNat b) o else noR) ∧ z = sellE d r h o a b := fun z e h0 => by rw [e, if_neg h0]; exact ⟨rfl, rfl⟩
  refine ⟨fun g => ⟨rfl, tE 1 (sellE_1 g) (by decide)⟩, fun g => ?_⟩
  obtain ⟨c1, c2, c3, c4, c5, c6, c7, c8⟩ := chk_ok g
  refine ⟨fun g1 => ⟨rfl, tE 8 (sellE_8 g (by omega)) (by decide)⟩, fun g1 => ⟨fun g2 => ⟨rfl, tE 8 (sellE_8 g (by omega)) (by decide)⟩, fun g2 => ⟨fun g3 => ⟨rfl, tE 8 (sellE_8 g (by omega)) (by decide)⟩, fun g3 => ⟨fun g4 => ⟨rfl, tE 8 (sellE_8 g (by omega)) (by decide)⟩, fun g4 => ?_⟩⟩⟩⟩
  have e0 := sellE_0 (a := a) (b := b) g (by omega)
  refine call_o (fn_copied G d r h o (by omega) (by omega) (by omega)) ?_ ?_
  · (simp -dsimp only [↓z_ltD_oag, ↓z_ltL_cons, ↓z_ltS_osl, Nat.reduceLT, ↓z_ltS_int, ↓z_ltL_nil, and_self, ↓z_ltO_cons, ↓z_ltL_int, rk_ltL, ↓z_ltO_nil]); (try simp only [Int.toNat_natCast, Nat.mul_one, Bool.or_false, Bool.false_or, Bool.or_self, Bool.or_true])
  · rw [if_pos e0, e0]
    have hs := set_int (x := h) (i := a.toNat) (b := b) (by omega)
    have hl : (h.set a.toNat b).length = h.length := by simp
    (simp -dsimp only [Nat.zero_add, Nat.reduceAdd, Nat.reduceLeDiff, ne_eq, ↓z_nmRE_cons, ↓z_nmR_oag, ↓z_nmRS_sl, ↓z_nmRS_int, ↓z_nmRS_nil, ↓z_nmR_bool, ↓z_nmR_int, ↓z_nmR_ptr, Nat.reduceLT, or_false, ↓z_nmR_sl, ↓z_nmR_agg, ↓z_nmRE_nil, and_self, ↓z_nmRO_cons, ↓z_nmRL_cons, ↓z_nmR_nils, ↓z_nmRL_nil, ↓z_nmRO_nil, ↓z_shO_cons, ↓z_mapS_int, rk_mapS, ↓z_shO_nil, ↓z_put, ↓z_ops_plain, ↓z_alloc, ↓y_zr25, ↓z_new, ↓z_pg_cons, ↓z_shD_oag, ↓z_mapS_cons, ↓z_shS_osl, ↓z_shS_int, ↓z_mapS_nil, ↓z_store, ↓evW_tmp, ↓lkW_cons, ↓reduceIte, Nat.reduceEqDiff, ↓y_sz25, ↓z_store_ptr, ↓lkoW_cons, List.length_cons, List.length_nil, ↓spsW_cons, ↓drW_cons, reduceCtorEq, Nat.reduceSub, ↓drW_nil, ↓z_cat_nil_r, ↓z_so_cons, ↓z_put_none, ↓z_ops_nil, ↓z_seq_nrm, ↓z_seq, ↓z_region, ↓z_fieldAddr, ↓y_fl25x2, ↓y_sz22, not_false_eq_true, ↓z_fa_ptr, ↓z_load, ↓y_ty22, ↓z_agTy_sl, ↓loadW_ptr, ↓z_rd_f, ↓z_move, ↓z_indexAddr, ↓z_elTy_sl, ↓y_sz3, ↓y_ty25, ↓z_agTy_st, ↓z_assign, ↓evW_const, ↓constW_int, inR_i64, Int.reduceNeg, Int.reduceLE, ↓z_ret, ↓z_end_rt, resLW, res1W, ↓z_frL_cons, ↓z_frL_nil, and_true, ↓z_coeL_cons, ↓z_coeL_nil, ↓z_pack2, D.tup.injEq, List.cons.injEq, true_and, ↓z_mn_oag, ↓z_mnL_sl, ↓z_mnL_int, ↓z_mnL_nil, ↓z_mn_bool, ↓z_mn_int, ↓z_mn_ptr, ↓z_mn_sl, ↓z_mn_agg, ↓z_pg_nil, ↓z_cl_int, ↓z_mnL_osl, ↓z_cl_oag, ↓nthW_cons, ↓z_ix_osl, Nat.mul_one, ↓z_rd_t, ↓z_sub_c, ↓z_sub_nil, ↓z_fr_int, ↓z_coe_int, ↓z_fr_oag, ↓z_coe_oag, D.agg.injEq, z_sub, List.drop_zero, z_sps, List.take_zero, List.nil_append, ↓z_apO_cons, ↓z_apO_nil, ↓z_nm_cons, ↓z_nmC_int, rk_nmC, ↓z_nmC_cons, ↓z_mn'_nils, ↓z_mn'_int, ↓z_nmC_nil, ↓z_mn'_sl, ↓z_nm_nil, List.length_map, List.drop_succ_cons, List.append_nil, hs, List.take_succ_cons, ↓z_frSL_cons, ↓z_frS_osl, ↓z_frC_ints, rk_frC, ↓z_frS_int, ↓z_frSL_nil, ↓z_coeC_cons, ↓z_coeS_osl, ↓z_allP_int, rk_allP, rk_len, hl, ↓z_coeS_int, ↓z_coeC_nil]); (try simp only [Int.toNat_natCast, Nat.mul_one, Bool.or_false, Bool.false_or, Bool.or_self, Bool.or_true])
    unfold domA
    rw [hl]
    exact ⟨by omega, by omega, by omega, rfl⟩
set_option maxRecDepth 100000 in
set_option maxHeartbeats 8000000 in
theorem fn_Ship (G : Glob) (d : List Int) (r : List (Int × Bool)) (h : List Int) (o : Int) (a b : Int) : FnF G Try.prog 24 [.agg [.sl 1 d.length (d.map (D.int .i64)), .sl 2 r.length (List.flatMap rkC r), .sl 1 h.length (h.map (D.int .i64)), .int .i64 o], .int .i64 a, .int .i64 b] (.tup [.agg (shipA d r h o a b), .int .i64 (shipE d r h o a b)]) := by
  refine FnF.outT ?_ outP
  refine FnF.mk (c := _) Try.func24 rfl rfl Try.ntmps24 Try.results24 ?_
  (simp -dsimp only [bodyW, List.length_cons, List.length_nil, Nat.zero_add, Nat.reduceAdd, Nat.reduceLeDiff, wfL, ↓z_seq, ↓z_region, ↓z_ops_plain, ↓z_box, ↓evW_tmp, ↓z_lk_env, ↓reduceIte, ↓z_cl_agg, ↓z_nmC_cons, ↓z_mn'_sl, ↓z_mn'_int, ↓z_nmC_nil, and_self, ↓z_new, ↓z_nm_nil, Nat.reduceLT, ↓z_pg_env, ↓z_mn_agg, ↓z_mn_int, ↓z_pg_env0, ↓z_put, ↓z_alloc, ↓y_zr25, ↓z_nm_cons, ↓z_pg_cons, ↓z_mn_ptr, reduceCtorEq, ↓z_pg_nil, ↓z_assign, ↓evW_const, ↓constW_int, inR_i64, Int.reduceNeg, Int.reduceLE, ↓z_ops_nil, ↓z_seq_nrm, ↓z_block, ↓z_load, ↓lkW_cons, Nat.reduceEqDiff, ↓y_ty25, ↓y_sz25, ↓z_agTy_st, ↓loadW_ptr, ↓lkoW_cons, ↓z_rd_t, ↓z_sub_c, ↓z_sub_nil, ↓z_callv, ↓evW_func, ↓z_evL_cons, ↓z_evL_nil, ↓z_fun0, ↓z_coeL_cons, ↓z_coe_oag, ↓z_coeC_cons, ↓z_coeS_sl, ↓z_coeS_int, ↓z_coeC_nil, ↓z_coeL_nil, true_and])
  intro hd _ _
  refine call_fn (fn_Check G d r h o) fun _ => ?_
  (simp -dsimp only [↓z_put, Nat.reduceLT, ↓z_ops_plain, ↓z_binOp, ↓evW_tmp, ↓lkW_cons, ↓reduceIte, ↓evW_const, ↓constW_int, inR_i64, Int.reduceNeg, Int.reduceLE, and_self, ↓z_bn_neq, ↓z_assign, ↓z_ops_nil, ↓z_seq_nrm, ↓z_cond, ↓z_cnd, ↓z_gdt, ne_eq, ↓z_seq, ↓z_region, ↓z_build, ↓y_ty25, ↓z_blTy_st, ↓y_zr25, ↓z_bld_nil, ↓z_store, Nat.reduceEqDiff, ↓y_sz25, ↓z_cl_oag, List.length_cons, List.length_nil, Nat.zero_add, Nat.reduceAdd, ↓z_store_ptr, ↓lkoW_cons, Nat.reduceLeDiff, ↓spsW_cons, ↓drW_cons, reduceCtorEq, Nat.reduceSub, ↓drW_nil, ↓z_cat_nil_r, ↓z_so_cons, ↓z_put_none, ↓z_ret, ↓z_blk_rt, ↓z_seq_rt, ↓z_end_rt, resLW, res1W, ↓z_agTy_st, ↓z_frL_cons, ↓z_frL_nil, and_true, ↓z_coeL_cons, ↓z_coeL_nil, ↓z_pack2, D.tup.injEq, List.cons.injEq, ↓z_fr_int, ↓z_coe_int, D.int.injEq, true_and, ↓loadW_ptr, ↓z_rd_t, ↓z_sub_c, ↓z_sub_nil, ↓z_fr_oag, ↓z_frSL_cons, ↓z_frS_nils, ↓z_frS_int, ↓z_frSL_nil, ↓z_coe_oag, ↓z_coeC_cons, ↓z_coeS_nils, ↓z_coeS_int, ↓z_coeC_nil, D.agg.injEq, ↓z_move, ↓z_bn_lss, ↓z_ops_guard, ↓z_grd, ↓z_dst_s, ↓z_dst_0, ↓z_grdD_b, ↓z_gdf, ↓z_gnf, ↓z_gft, ↓z_pick, ↓z_pick_b, ↓z_gnt, ↓z_gff, ↓constW_bool, ↓z_gtf, ↓z_gtt, Bool.not_false, ↓z_fieldAddr, ↓y_fl25x1, ↓y_sz23, not_false_eq_true, ↓z_fa_ptr, ↓z_load, ↓y_ty23, ↓z_agTy_sl, ↓z_rd_f, ↓nthW_cons, ↓z_callb, ↓z_evL_cons, ↓z_evL_nil, ↓z_len, ↓z_ln_sl, ↓z_bn_geq, ↓y_fl25x2, ↓y_sz22, ↓y_ty22, ↓z_indexAddr, ↓z_elTy_sl, ↓y_sz56, ↓z_ix_sl, ↓y_fl56x1, ↓y_sz4, ↓z_fa_rop, ↓y_ty4, ↓z_agTy_bool, ↓loadW_rop, ↓z_unOp, ↓z_skip, ↓z_blk_nrm, ↓z_callv, ↓evW_func, ↓z_fun0, ↓z_coeS_sl, nth_rk1, ↓z_un_not, z_gvarf, z_ite, Classical.not_not])
  have tE : ∀ z : Int, shipE d r h o a b = z → z ≠ 0 → noR = (if shipE d r h o a b = 0 then domA d (r.set a.toNat (b, (r.getD a.toNat (0, false)).2)) h o else noR) ∧ z = shipE d r h o a b := fun z e h0 => by rw [e, if_neg h0]; exact ⟨rfl, rfl⟩
  refine ⟨fun g => ⟨rfl, tE 1 (shipE_1 g) (by decide)⟩, fun g => ?_⟩
  obtain ⟨c1, c2, c3, c4, c5, c6, c7, c8⟩ := chk_ok g
  refine ⟨fun g1 => ⟨rfl, tE 8 (shipE_8 g (by omega)) (by decide)⟩, fun g1 => ⟨fun g2 => ⟨rfl, tE 8 (shipE_8 g (by omega)) (by decide)⟩, fun g2 => ⟨fun g3 => ⟨rfl, tE 8 (shipE_8 g (by omega)) (by decide)⟩, fun g3 => ⟨fun g4 => ⟨rfl, tE 8 (shipE_8 g (by omega)) (by decide)⟩, fun g4 => ?_⟩⟩⟩⟩
  have er : r.getD a.toNat (0, false) = r[a.toNat]'(by omega) := getD_at _
  refine ⟨by omega, by omega, by omega, fun g5 => ⟨rfl, tE 4 (shipE_4 g (by omega) (by rw [er]; exact g5)) (by decide)⟩, fun g5 => ?_⟩
  have e0 := shipE_0 (a := a) (b := b) g (by omega) (by rw [er]; simpa using g5)
  refine call_o (fn_copied G d r h o (by omega) (by omega) (by omega)) ?_ ?_
  · (simp -dsimp only [↓z_ltD_oag, ↓z_ltL_cons, ↓z_ltS_osl, Nat.reduceLT, ↓z_ltS_int, ↓z_ltL_nil, and_self, ↓z_ltO_cons, ↓z_ltL_int, rk_ltL, ↓z_ltO_nil]); (try simp only [Int.toNat_natCast, Nat.mul_one, Bool.or_false, Bool.false_or, Bool.or_self, Bool.or_true])
  · rw [if_pos e0, e0]
    have hs := set_rk' (r := r) (i := a.toNat) (b := b) (by omega)
    have hl : (r.set a.toNat (b, (r.getD a.toNat (0, false)).2)).length = r.length := by simp
    (simp -dsimp only [Nat.zero_add, Nat.reduceAdd, Nat.reduceLeDiff, ne_eq, ↓z_nmRE_cons, ↓z_nmR_oag, ↓z_nmRS_sl, ↓z_nmRS_int, ↓z_nmRS_nil, ↓z_nmR_bool, ↓z_nmR_rop, ↓z_nmR_int, ↓z_nmR_sl, ↓z_nmR_ptr, Nat.reduceLT, or_false, ↓z_nmR_agg, ↓z_nmRE_nil, and_self, ↓z_nmRO_cons, ↓z_nmRL_cons, ↓z_nmR_nils, ↓z_nmRL_nil, ↓z_nmRO_nil, ↓z_shO_cons, ↓z_mapS_int, rk_mapS, ↓z_shO_nil, ↓z_put, ↓z_ops_plain, ↓z_alloc, ↓y_zr25, ↓z_new, ↓z_pg_cons, ↓z_shD_oag, ↓z_mapS_cons, ↓z_shS_osl, ↓z_shS_int, ↓z_mapS_nil, ↓z_store, ↓evW_tmp, ↓lkW_cons, ↓reduceIte, Nat.reduceEqDiff, ↓y_sz25, ↓z_store_ptr, ↓lkoW_cons, List.length_cons, List.length_nil, ↓spsW_cons, ↓drW_cons, reduceCtorEq, Nat.reduceSub, ↓drW_nil, ↓z_cat_nil_r, ↓z_so_cons, ↓z_put_none, ↓z_ops_nil, ↓z_seq_nrm, ↓z_seq, ↓z_region, ↓z_fieldAddr, ↓y_fl25x1, ↓y_sz23, not_false_eq_true, ↓z_fa_ptr, ↓z_load, ↓y_ty23, ↓z_agTy_sl, ↓loadW_ptr, ↓z_rd_f, ↓z_move, ↓z_indexAddr, ↓z_elTy_sl, ↓y_sz56, ↓y_fl56x0, ↓y_sz3, ↓y_ty25, ↓z_agTy_st, ↓z_assign, ↓evW_const, ↓constW_int, inR_i64, Int.reduceNeg, Int.reduceLE, ↓z_ret, ↓z_end_rt, resLW, res1W, ↓z_frL_cons, ↓z_frL_nil, and_true, ↓z_coeL_cons, ↓z_coeL_nil, ↓z_pack2, D.tup.injEq, List.cons.injEq, true_and, ↓z_mn_oag, ↓z_mnL_sl, ↓z_mnL_int, ↓z_mnL_nil, ↓z_mn_bool, ↓z_mn_rop, ↓z_mn_int, ↓z_mn_sl, ↓z_mn_ptr, ↓z_mn_agg, ↓z_pg_nil, ↓z_cl_int, ↓z_mnL_osl, ↓z_cl_oag, ↓nthW_cons, ↓z_ix_osl, ↓z_rd_t, ↓z_sub_c, ↓z_sub_nil, ↓z_fr_int, ↓z_coe_int, ↓z_fr_oag, ↓z_coe_oag, D.agg.injEq, z_sub, List.drop_zero, z_sps, List.take_zero, List.nil_append, ↓z_apO_cons, ↓z_apO_nil, ↓z_nm_cons, ↓z_nmC_int, rk_nmC, ↓z_nmC_cons, ↓z_mn'_nils, ↓z_mn'_int, ↓z_nmC_nil, ↓z_mn'_sl, ↓z_nm_nil, rk_len, List.drop_succ_cons, List.append_nil, hs, List.take_succ_cons, ↓z_frSL_cons, ↓z_frS_osl, ↓z_frC_ints, rk_frC, ↓z_frS_int, ↓z_frSL_nil, ↓z_coeC_cons, ↓z_coeS_osl, ↓z_allP_int, List.length_map, Nat.mul_one, rk_allP, hl, ↓z_coeS_int, ↓z_coeC_nil]); (try simp only [Int.toNat_natCast, Nat.mul_one, Bool.or_false, Bool.false_or, Bool.or_self, Bool.or_true])
    unfold domA
    rw [hl]
    exact ⟨by omega, by omega, by omega, rfl⟩
set_option maxRecDepth 100000 in
set_option maxHeartbeats 8000000 in
theorem fn_refSell (G : Glob) (d : List Int) (r : List (Int × Bool)) (h : List Int) (o : Int) (a b : Int) : FnF G Try.prog 25 [.agg [.sl 1 d.length (d.map (D.int .i64)), .sl 2 r.length (List.flatMap rkC r), .sl 1 h.length (h.map (D.int .i64)), .int .i64 o], .int .i64 a, .int .i64 b] (.agg (soldA d r h o a b ++ [.int .i64 (sellE d r h o a b)])) := by
  refine FnF.outU ?_ outS
  refine FnF.mk (c := _) Try.func25 rfl rfl Try.ntmps25 Try.results25 ?_
  (simp -dsimp only [bodyW, List.length_cons, List.length_nil, Nat.zero_add, Nat.reduceAdd, Nat.reduceLeDiff, wfL, ↓z_seq, ↓z_region, ↓z_ops_plain, ↓z_box, ↓evW_tmp, ↓z_lk_env, ↓reduceIte, ↓z_cl_agg, ↓z_nmC_cons, ↓z_mn'_sl, ↓z_mn'_int, ↓z_nmC_nil, and_self, ↓z_new, ↓z_nm_nil, Nat.reduceLT, ↓z_pg_env, ↓z_mn_agg, ↓z_mn_int, ↓z_pg_env0, ↓z_put, ↓z_alloc, ↓y_zr48, ↓z_nm_cons, ↓z_pg_cons, ↓z_mn_ptr, reduceCtorEq, ↓z_pg_nil, ↓z_ops_nil, ↓z_seq_nrm, ↓z_load, ↓lkW_cons, Nat.reduceEqDiff, ↓y_ty25, ↓y_sz25, ↓z_agTy_st, ↓loadW_ptr, ↓lkoW_cons, ↓z_rd_t, ↓z_sub_c, ↓z_sub_nil, ↓z_callv, ↓evW_func, ↓z_evL_cons, ↓z_evL_nil, ↓z_fun0, ↓z_coeL_cons, ↓z_coe_oag, ↓z_coeC_cons, ↓z_coeS_sl, ↓z_coeS_int, ↓z_coeC_nil, ↓z_coeL_nil, true_and])
  intro hd _ _
  refine call_fn (fn_refCheck G d r h o) fun _ => ?_
  (simp -dsimp only [↓z_put, Nat.reduceLT, ↓z_ops_plain, ↓z_binOp, ↓evW_tmp, ↓lkW_cons, ↓reduceIte, ↓evW_const, ↓constW_int, inR_i64, Int.reduceNeg, Int.reduceLE, and_self, ↓z_bn_neq, ↓z_ops_nil, ↓z_seq_nrm, ↓z_cond, ↓z_cnd, ↓z_gdt, ne_eq, ↓z_seq, ↓z_region, ↓z_build, ↓y_ty48, ↓z_blTy_st, ↓y_zr48, ↓z_bld_cons, ↓y_fl48x1, ↓y_sz33, ↓z_cl_int, List.length_cons, List.length_nil, Nat.zero_add, Nat.reduceAdd, Nat.reduceLeDiff, ↓spsW_cons, reduceCtorEq, Nat.reduceSub, ↓drW_cons, ↓drW_nil, ↓z_cat_nil_r, ↓z_bld_nil, ↓z_store, Nat.reduceEqDiff, ↓y_sz48, ↓z_cl_oag, ↓z_store_ptr, ↓lkoW_cons, ↓z_so_cons, ↓z_put_none, ↓z_ret, ↓z_seq_rt, ↓z_end_rt, resLW, res1W, ↓z_agTy_st, ↓z_frL_cons, ↓z_frL_nil, and_true, ↓z_coeL_cons, ↓z_coeL_nil, ↓z_pack1, ↓loadW_ptr, ↓z_rd_t, ↓z_sub_c, ↓z_sub_nil, ↓z_fr_oag, ↓z_frSL_cons, ↓z_frS_nils, ↓z_frS_int, ↓z_frSL_nil, ↓z_coe_oag, ↓z_coeC_cons, ↓z_coeS_nils, ↓z_coeS_int, ↓z_coeC_nil, D.agg.injEq, true_and, ↓z_skip, ↓z_move, ↓z_bn_lss, ↓z_ops_guard, ↓z_grd, ↓z_dst_s, ↓z_dst_0, ↓z_grdD_b, ↓z_gdf, ↓z_gnf, ↓z_gft, ↓z_pick, ↓z_pick_b, ↓z_gnt, ↓z_gff, ↓constW_bool, ↓z_gtf, ↓z_gtt, Bool.not_false, ↓z_fieldAddr, ↓y_fl25x2, ↓y_sz22, not_false_eq_true, ↓z_fa_ptr, ↓z_load, ↓y_ty22, ↓z_agTy_sl, ↓z_rd_f, ↓nthW_cons, ↓z_callb, ↓z_evL_cons, ↓z_evL_nil, ↓z_len, ↓z_ln_sl, ↓z_bn_geq, ↓y_fl25x3, ↓y_sz3, ↓y_ty3, ↓z_agTy_int, ↓y_ty25, ↓y_sz25, ↓z_callv, ↓evW_func, ↓z_fun0, ↓z_coeS_sl, z_ite, Classical.not_not])
  have tE : ∀ z : Int, sellE d r h o a b = z → z ≠ 0 → noR ++ [D.int .i64 z] = (if sellE d r h o a b = 0 then domA d r (h.set a.toNat b) o else noR) ++ [D.int .i64 (sellE d r h o a b)] := fun z e h0 => by rw [e, if_neg h0]
  refine ⟨fun g => ⟨rfl, tE 1 (sellE_1 g) (by decide)⟩, fun g => ?_⟩
  obtain ⟨c1, c2, c3, c4, c5, c6, c7, c8⟩ := chk_ok g
  refine ⟨fun g1 => ⟨rfl, tE 8 (sellE_8 g (by omega)) (by decide)⟩, fun g1 => ⟨fun g2 => ⟨rfl, tE 8 (sellE_8 g (by omega)) (by decide)⟩, fun g2 => ⟨fun g3 => ⟨rfl, tE 8 (sellE_8 g (by omega)) (by decide)⟩, fun g3 => ⟨fun g4 => ⟨rfl, tE 8 (sellE_8 g (by omega)) (by decide)⟩, fun g4 => ?_⟩⟩⟩⟩
  have e0 := sellE_0 (a := a) (b := b) g (by omega)
  refine call_o (fn_Copy G d r h o (by omega) (by omega) (by omega)) ?_ ?_
  · (simp -dsimp only [↓z_ltD_oag, ↓z_ltL_cons, ↓z_ltS_osl, Nat.reduceLT, ↓z_ltS_int, ↓z_ltL_nil, and_self, ↓z_ltO_cons, ↓z_ltL_int, rk_ltL, ↓z_ltO_nil]); (try simp only [Int.toNat_natCast, Nat.mul_one, Bool.or_false, Bool.false_or, Bool.or_self, Bool.or_true])
  · rw [if_pos e0, e0]
    have hs := set_int (x := h) (i := a.toNat) (b := b) (by omega)
    have hl : (h.set a.toNat b).length = h.length := by simp
    (simp -dsimp only [Nat.zero_add, Nat.reduceAdd, Nat.reduceLeDiff, ne_eq, ↓z_nmRE_cons, ↓z_nmR_oag, ↓z_nmRS_sl, ↓z_nmRS_int, ↓z_nmRS_nil, ↓z_nmR_bool, ↓z_nmR_int, ↓z_nmR_ptr, Nat.reduceLT, or_false, ↓z_nmR_sl, ↓z_nmR_agg, ↓z_nmRE_nil, and_self, ↓z_nmRO_cons, ↓z_nmRL_cons, ↓z_nmR_nils, ↓z_nmRL_nil, ↓z_nmRO_nil, ↓z_shO_cons, ↓z_mapS_int, rk_mapS, ↓z_shO_nil, ↓z_put, ↓z_ops_plain, ↓z_alloc, ↓y_zr25, ↓z_new, ↓z_pg_cons, ↓z_shD_oag, ↓z_mapS_cons, ↓z_shS_osl, ↓z_shS_int, ↓z_mapS_nil, ↓z_store, ↓evW_tmp, ↓lkW_cons, ↓reduceIte, Nat.reduceEqDiff, ↓y_sz25, ↓z_store_ptr, ↓lkoW_cons, List.length_cons, List.length_nil, ↓spsW_cons, ↓drW_cons, reduceCtorEq, Nat.reduceSub, ↓drW_nil, ↓z_cat_nil_r, ↓z_so_cons, ↓z_put_none, ↓z_ops_nil, ↓z_seq_nrm, ↓z_seq, ↓z_region, ↓z_fieldAddr, ↓y_fl25x2, ↓y_sz22, not_false_eq_true, ↓z_fa_ptr, ↓z_load, ↓y_ty22, ↓z_agTy_sl, ↓loadW_ptr, ↓z_rd_f, ↓z_move, ↓z_indexAddr, ↓z_elTy_sl, ↓y_sz3, ↓y_ty25, ↓z_agTy_st, ↓z_build, ↓y_ty48, ↓z_blTy_st, ↓y_zr48, ↓z_bld_cons, ↓y_fl48x0, ↓z_bld_nil, ↓y_sz48, ↓z_ret, ↓z_end_rt, resLW, res1W, ↓z_frL_cons, ↓z_frL_nil, and_true, ↓z_coeL_cons, ↓z_coeL_nil, ↓z_pack1, true_and, ↓z_mn_oag, ↓z_mnL_sl, ↓z_mnL_int, ↓z_mnL_nil, ↓z_mn_bool, ↓z_mn_int, ↓z_mn_ptr, ↓z_mn_sl, ↓z_mn_agg, ↓z_pg_nil, ↓z_cl_int, ↓z_mnL_osl, ↓z_cl_oag, ↓nthW_cons, ↓z_ix_osl, Nat.mul_one, ↓z_rd_t, ↓z_sub_c, ↓z_sub_nil, ↓catW_cons, ↓catW_nil, ↓z_fr_oag, ↓z_coe_oag, D.agg.injEq, z_sub, List.drop_zero, z_sps, List.take_zero, List.nil_append, ↓z_apO_cons, ↓z_apO_nil, ↓z_nm_cons, ↓z_nmC_int, rk_nmC, ↓z_nmC_cons, ↓z_mn'_nils, ↓z_mn'_int, ↓z_nmC_nil, ↓z_mn'_sl, ↓z_nm_nil, List.length_map, List.drop_succ_cons, List.append_nil, hs, List.take_succ_cons, ↓z_frSL_cons, ↓z_frS_osl, ↓z_frC_ints, rk_frC, ↓z_frS_int, ↓z_frSL_nil, ↓z_coeC_cons, ↓z_coeS_osl, ↓z_allP_int, rk_allP, rk_len, hl, ↓z_coeS_int, ↓z_coeC_nil]); (try simp only [Int.toNat_natCast, Nat.mul_one, Bool.or_false, Bool.false_or, Bool.or_self, Bool.or_true])
    unfold domA
    rw [hl]
    exact ⟨by omega, by omega, by omega, rfl, rfl⟩
set_option maxRecDepth 100000 in
set_option maxHeartbeats 8000000 in
theorem fn_refShip (G : Glob) (d : List Int) (r : List (Int × Bool)) (h : List Int) (o : Int) (a b : Int) : FnF G Try.prog 26 [.agg [.sl 1 d.length (d.map (D.int .i64)), .sl 2 r.length (List.flatMap rkC r), .sl 1 h.length (h.map (D.int .i64)), .int .i64 o], .int .i64 a, .int .i64 b] (.agg (shipA d r h o a b ++ [.int .i64 (shipE d r h o a b)])) := by
  refine FnF.outU ?_ outP
  refine FnF.mk (c := _) Try.func26 rfl rfl Try.ntmps26 Try.results26 ?_
  (simp -dsimp only [bodyW, List.length_cons, List.length_nil, Nat.zero_add, Nat.reduceAdd, Nat.reduceLeDiff, wfL, ↓z_seq, ↓z_region, ↓z_ops_plain, ↓z_box, ↓evW_tmp, ↓z_lk_env, ↓reduceIte, ↓z_cl_agg, ↓z_nmC_cons, ↓z_mn'_sl, ↓z_mn'_int, ↓z_nmC_nil, and_self, ↓z_new, ↓z_nm_nil, Nat.reduceLT, ↓z_pg_env, ↓z_mn_agg, ↓z_mn_int, ↓z_pg_env0, ↓z_put, ↓z_alloc, ↓y_zr48, ↓z_nm_cons, ↓z_pg_cons, ↓z_mn_ptr, reduceCtorEq, ↓z_pg_nil, ↓z_ops_nil, ↓z_seq_nrm, ↓z_load, ↓lkW_cons, Nat.reduceEqDiff, ↓y_ty25, ↓y_sz25, ↓z_agTy_st, ↓loadW_ptr, ↓lkoW_cons, ↓z_rd_t, ↓z_sub_c, ↓z_sub_nil, ↓z_callv, ↓evW_func, ↓z_evL_cons, ↓z_evL_nil, ↓z_fun0, ↓z_coeL_cons, ↓z_coe_oag, ↓z_coeC_cons, ↓z_coeS_sl, ↓z_coeS_int, ↓z_coeC_nil, ↓z_coeL_nil, true_and])
  intro hd _ _
  refine call_fn (fn_refCheck G d r h o) fun _ => ?_
  (simp -dsimp only [↓z_put, Nat.reduceLT, ↓z_ops_plain, ↓z_binOp, ↓evW_tmp, ↓lkW_cons, ↓reduceIte, ↓evW_const, ↓constW_int, inR_i64, Int.reduceNeg, Int.reduceLE, and_self, ↓z_bn_neq, ↓z_ops_nil, ↓z_seq_nrm, ↓z_cond, ↓z_cnd, ↓z_gdt, ne_eq, ↓z_seq, ↓z_region, ↓z_build, ↓y_ty48, ↓z_blTy_st, ↓y_zr48, ↓z_bld_cons, ↓y_fl48x1, ↓y_sz33, ↓z_cl_int, List.length_cons, List.length_nil, Nat.zero_add, Nat.reduceAdd, Nat.reduceLeDiff, ↓spsW_cons, reduceCtorEq, Nat.reduceSub, ↓drW_cons, ↓drW_nil, ↓z_cat_nil_r, ↓z_bld_nil, ↓z_store, Nat.reduceEqDiff, ↓y_sz48, ↓z_cl_oag, ↓z_store_ptr, ↓lkoW_cons, ↓z_so_cons, ↓z_put_none, ↓z_ret, ↓z_seq_rt, ↓z_end_rt, resLW, res1W, ↓z_agTy_st, ↓z_frL_cons, ↓z_frL_nil, and_true, ↓z_coeL_cons, ↓z_coeL_nil, ↓z_pack1, ↓loadW_ptr, ↓z_rd_t, ↓z_sub_c, ↓z_sub_nil, ↓z_fr_oag, ↓z_frSL_cons, ↓z_frS_nils, ↓z_frS_int, ↓z_frSL_nil, ↓z_coe_oag, ↓z_coeC_cons, ↓z_coeS_nils, ↓z_coeS_int, ↓z_coeC_nil, D.agg.injEq, true_and, ↓z_skip, ↓z_move, ↓z_bn_lss, ↓z_ops_guard, ↓z_grd, ↓z_dst_s, ↓z_dst_0, ↓z_grdD_b, ↓z_gdf, ↓z_gnf, ↓z_gft, ↓z_pick, ↓z_pick_b, ↓z_gnt, ↓z_gff, ↓constW_bool, ↓z_gtf, ↓z_gtt, Bool.not_false, ↓z_fieldAddr, ↓y_fl25x1, ↓y_sz23, not_false_eq_true, ↓z_fa_ptr, ↓z_load, ↓y_ty23, ↓z_agTy_sl, ↓z_rd_f, ↓nthW_cons, ↓z_callb, ↓z_evL_cons, ↓z_evL_nil, ↓z_len, ↓z_ln_sl, ↓z_bn_geq, ↓y_fl25x2, ↓y_sz22, ↓y_ty22, ↓z_indexAddr, ↓z_elTy_sl, ↓y_sz56, ↓z_ix_sl, ↓y_fl56x1, ↓y_sz4, ↓z_fa_rop, ↓y_ty4, ↓z_agTy_bool, ↓loadW_rop, ↓z_unOp, ↓y_ty25, ↓y_sz25, ↓z_callv, ↓evW_func, ↓z_fun0, ↓z_coeS_sl, nth_rk1, ↓z_un_not, z_gvarf, z_ite, Classical.not_not])
  have tE : ∀ z : Int, shipE d r h o a b = z → z ≠ 0 → noR ++ [D.int .i64 z] = (if shipE d r h o a b = 0 then domA d (r.set a.toNat (b, (r.getD a.toNat (0, false)).2)) h o else noR) ++ [D.int .i64 (shipE d r h o a b)] := fun z e h0 => by rw [e, if_neg h0]
  refine ⟨fun g => ⟨rfl, tE 1 (shipE_1 g) (by decide)⟩, fun g => ?_⟩
  obtain ⟨c1, c2, c3, c4, c5, c6, c7, c8⟩ := chk_ok g
  refine ⟨fun g1 => ⟨rfl, tE 8 (shipE_8 g (by omega)) (by decide)⟩, fun g1 => ⟨fun g2 => ⟨rfl, tE 8 (shipE_8 g (by omega)) (by decide)⟩, fun g2 => ⟨fun g3 => ⟨rfl, tE 8 (shipE_8 g (by omega)) (by decide)⟩, fun g3 => ⟨fun g4 => ⟨rfl, tE 8 (shipE_8 g (by omega)) (by decide)⟩, fun g4 => ?_⟩⟩⟩⟩
  have er : r.getD a.toNat (0, false) = r[a.toNat]'(by omega) := getD_at _
  refine ⟨by omega, by omega, by omega, fun g5 => ⟨rfl, tE 4 (shipE_4 g (by omega) (by rw [er]; exact g5)) (by decide)⟩, fun g5 => ?_⟩
  have e0 := shipE_0 (a := a) (b := b) g (by omega) (by rw [er]; simpa using g5)
  refine call_o (fn_Copy G d r h o (by omega) (by omega) (by omega)) ?_ ?_
  · (simp -dsimp only [↓z_ltD_oag, ↓z_ltL_cons, ↓z_ltS_osl, Nat.reduceLT, ↓z_ltS_int, ↓z_ltL_nil, and_self, ↓z_ltO_cons, ↓z_ltL_int, rk_ltL, ↓z_ltO_nil]); (try simp only [Int.toNat_natCast, Nat.mul_one, Bool.or_false, Bool.false_or, Bool.or_self, Bool.or_true])
  · rw [if_pos e0, e0]
    have hs := set_rk' (r := r) (i := a.toNat) (b := b) (by omega)
    have hl : (r.set a.toNat (b, (r.getD a.toNat (0, false)).2)).length = r.length := by simp
    (simp -dsimp only [Nat.zero_add, Nat.reduceAdd, Nat.reduceLeDiff, ne_eq, ↓z_nmRE_cons, ↓z_nmR_oag, ↓z_nmRS_sl, ↓z_nmRS_int, ↓z_nmRS_nil, ↓z_nmR_bool, ↓z_nmR_rop, ↓z_nmR_int, ↓z_nmR_sl, ↓z_nmR_ptr, Nat.reduceLT, or_false, ↓z_nmR_agg, ↓z_nmRE_nil, and_self, ↓z_nmRO_cons, ↓z_nmRL_cons, ↓z_nmR_nils, ↓z_nmRL_nil, ↓z_nmRO_nil, ↓z_shO_cons, ↓z_mapS_int, rk_mapS, ↓z_shO_nil, ↓z_put, ↓z_ops_plain, ↓z_alloc, ↓y_zr25, ↓z_new, ↓z_pg_cons, ↓z_shD_oag, ↓z_mapS_cons, ↓z_shS_osl, ↓z_shS_int, ↓z_mapS_nil, ↓z_store, ↓evW_tmp, ↓lkW_cons, ↓reduceIte, Nat.reduceEqDiff, ↓y_sz25, ↓z_store_ptr, ↓lkoW_cons, List.length_cons, List.length_nil, ↓spsW_cons, ↓drW_cons, reduceCtorEq, Nat.reduceSub, ↓drW_nil, ↓z_cat_nil_r, ↓z_so_cons, ↓z_put_none, ↓z_ops_nil, ↓z_seq_nrm, ↓z_seq, ↓z_region, ↓z_fieldAddr, ↓y_fl25x1, ↓y_sz23, not_false_eq_true, ↓z_fa_ptr, ↓z_load, ↓y_ty23, ↓z_agTy_sl, ↓loadW_ptr, ↓z_rd_f, ↓z_move, ↓z_indexAddr, ↓z_elTy_sl, ↓y_sz56, ↓y_fl56x0, ↓y_sz3, ↓y_ty25, ↓z_agTy_st, ↓z_build, ↓y_ty48, ↓z_blTy_st, ↓y_zr48, ↓z_bld_cons, ↓y_fl48x0, ↓z_bld_nil, ↓y_sz48, ↓z_ret, ↓z_end_rt, resLW, res1W, ↓z_frL_cons, ↓z_frL_nil, and_true, ↓z_coeL_cons, ↓z_coeL_nil, ↓z_pack1, true_and, ↓z_mn_oag, ↓z_mnL_sl, ↓z_mnL_int, ↓z_mnL_nil, ↓z_mn_bool, ↓z_mn_rop, ↓z_mn_int, ↓z_mn_sl, ↓z_mn_ptr, ↓z_mn_agg, ↓z_pg_nil, ↓z_cl_int, ↓z_mnL_osl, ↓z_cl_oag, ↓nthW_cons, ↓z_ix_osl, ↓z_rd_t, ↓z_sub_c, ↓z_sub_nil, ↓catW_cons, ↓catW_nil, ↓z_fr_oag, ↓z_coe_oag, D.agg.injEq, z_sub, List.drop_zero, z_sps, List.take_zero, List.nil_append, ↓z_apO_cons, ↓z_apO_nil, ↓z_nm_cons, ↓z_nmC_int, rk_nmC, ↓z_nmC_cons, ↓z_mn'_nils, ↓z_mn'_int, ↓z_nmC_nil, ↓z_mn'_sl, ↓z_nm_nil, rk_len, List.drop_succ_cons, List.append_nil, hs, List.take_succ_cons, ↓z_frSL_cons, ↓z_frS_osl, ↓z_frC_ints, rk_frC, ↓z_frS_int, ↓z_frSL_nil, ↓z_coeC_cons, ↓z_coeS_osl, ↓z_allP_int, List.length_map, Nat.mul_one, rk_allP, hl, ↓z_coeS_int, ↓z_coeC_nil]); (try simp only [Int.toNat_natCast, Nat.mul_one, Bool.or_false, Bool.false_or, Bool.or_self, Bool.or_true])
    unfold domA
    rw [hl]
    exact ⟨by omega, by omega, by omega, rfl, rfl⟩
end Go.Abs

