/-
  WIRE, ninth walks: digests. A list of digests is the row of their bytes.
-/
import Derived.Test.YtkhjapkjhjkdiaaW8
namespace Go.Abs
open Go.Proofs

set_option maxRecDepth 100000 in
set_option maxHeartbeats 8000000 in
theorem fn_Clone (G : Glob) (n : Nat) (bs : List UInt8) (hn : n ≤ 1000000) : FnS G Try.prog 48 [.sl 1 n (bs.map bD)] 1 n (bs.map bD) := by
  refine FnS.mk (c := _) Try.func48 rfl rfl Try.ntmps48 Try.results48 ?_
  (simp -dsimp only [bodyW, List.length_cons, List.length_nil, Nat.zero_add, Nat.reduceLeDiff, wfL, ↓z_seq, ↓z_region, ↓z_ops_plain, ↓z_assign, ↓evW_const, ↓constW_nils, ↓z_put, Nat.reduceLT, ↓z_ops_nil, ↓z_seq_nrm, ↓z_move, ↓evW_tmp, ↓lkW_cons, reduceCtorEq, ↓reduceIte, ↓z_lk_env, ↓z_binOp, ↓z_bn_slnil, ↓y_ty28, ↓z_isSl, ↓z_nilW, ↓z_cond, ↓z_cnd, ↓z_gft, ↓z_skip, ↓z_buildSlice, ↓z_slTy, ↓y_sz5, Nat.mul_one, maxLen_lit, ↓y_zr5, ↓z_repL_0, ↓z_bld_nil, ↓z_allP_nil, ↓z_callb, ↓z_evL_cons, Nat.reduceEqDiff, ↓z_evL_nil, ↓z_append, ↓z_nint_sl, ↓y_by5, ↓z_src_sl, ↓z_app_slx, ↓z_room, ↓z_new, ↓z_nm_nil, ↓z_pg_cons, ↓z_mn_sl, ↓z_mn_slx, ↓z_mn_bool, ↓z_mn_nils, ↓z_pg_env, ↓z_pg_env0, ↓z_ret, ↓z_end_rt, resLW, res1W, ↓z_own_osl, ↓lkoW_cons, ↓z_allP_bytes, List.length_map, and_self, and_true, true_and, List.nil_append, ↓z_seq_rt, ↓z_own_nils, z_gvar]); (try simp only [Int.toNat_natCast, Nat.mul_one, Bool.or_false, Bool.false_or, Bool.or_self, Bool.or_true])
  intro hwf
  have hl : bs.length = n := by have := hwf.1.2; simpa using this
  refine ⟨fun h0 => ⟨by omega, by omega, .inl hl⟩, fun h0 => ?_⟩
  have : bs = [] := List.eq_nil_of_length_eq_zero (by omega)
  subst this; subst h0
  exact fun b => ⟨fun _ => ⟨rfl, rfl⟩, fun _ => ⟨by omega, by omega, .inl rfl⟩⟩

set_option maxRecDepth 100000 in
set_option maxHeartbeats 8000000 in
theorem fn_digest (G : Glob) (d : List UInt8) (hd : d.length = 16) : FnS G Try.prog 41 [.agg (d.map bD)] 1 16 (d.map bD) := by
  refine FnS.mk (c := _) Try.func41 rfl rfl Try.ntmps41 Try.results41 ?_
  (simp -dsimp only [bodyW, List.length_cons, List.length_nil, Nat.zero_add, Nat.reduceLeDiff, wfL, ↓z_seq, ↓z_region, ↓z_ops_plain, ↓z_box, ↓evW_tmp, ↓z_lk_env, ↓reduceIte, ↓z_cl_agg, ↓z_nmC_bytes, ↓z_new, ↓z_nm_nil, ↓z_pg_env, ↓z_mn_agg, ↓z_pg_env0, ↓z_put, Nat.reduceLT, ↓z_assign, ↓evW_const, ↓constW_nils, ↓z_ops_nil, ↓z_seq_nrm, ↓z_slice, ↓lkW_cons, Nat.reduceEqDiff, ↓z_evO_none, ↓z_bo_none, ↓y_ty57, ↓z_seTy_arr, ↓y_sz5, ↓z_slc_ptr_nn, ↓lkoW_cons, Nat.mul_one, List.length_map, maxLen_lit, ↓z_callv, ↓evW_func, ↓z_evL_cons, ↓z_evL_nil, ↓z_fun0, ↓z_coeL_cons, ↓z_coe_osw, ↓z_allP_bytes, ↓z_sub_map, ↓z_coeL_nil, true_and])
  refine fun _ => ⟨by omega, by omega, call_ownL (fn_Clone G 16 _ (by decide)) (flS_bytes _) fun _ => ?_⟩
  (simp -dsimp only [↓z_new, ↓z_nm_cons, ↓z_nmC_bytes, ↓z_nm_nil, ↓z_pg_cons, ↓z_mn_osw, Nat.zero_add, reduceCtorEq, ↓reduceIte, ↓z_mn_nils, ↓z_mn_ptr, ↓z_mn_agg, ↓z_pg_nil, ↓z_put, Nat.reduceLT, ↓z_ops_plain, ↓z_assign, ↓evW_tmp, ↓lkW_cons, ↓z_ops_nil, ↓z_seq_nrm, ↓z_ret, ↓z_end_rt, resLW, res1W, Nat.reduceAdd, Nat.mul_one, ↓z_own_osl, ↓lkoW_cons, ↓z_allP_bytes, List.length_map, List.length_take, List.length_drop, true_and]); (try simp only [Int.toNat_natCast, Nat.mul_one, Bool.or_false, Bool.false_or, Bool.or_self, Bool.or_true])
  simp [List.take_of_length_le (Nat.le_of_eq hd), hd]

set_option maxRecDepth 100000 in
set_option maxHeartbeats 8000000 in
theorem fn_getDigest (G : Glob) (b : List UInt8) (hb : 16 ≤ b.length) : Fn G Try.prog 47 [.sl 1 b.length (b.map bD)] (.tup [.agg ((b.take 16).map bD), .int .i64 16, .int .i64 0]) := by
  refine Fn.mk (c := _) Try.func47 rfl rfl Try.ntmps47 Try.results47 ?_
  (simp -dsimp only [bodyW, List.length_cons, List.length_nil, Nat.zero_add, Nat.reduceLeDiff, wfL, ↓z_seq, ↓z_region, ↓z_ops_plain, ↓z_alloc, ↓y_zr57, ↓z_new, ↓z_nm_nil, ↓z_pg_env, ↓z_mn_sl, ↓z_pg_env0, ↓z_put, Nat.reduceLT, ↓z_assign, ↓evW_const, ↓constW_int, inR_i64, Int.reduceNeg, Int.reduceLE, and_self, ↓z_ops_nil, ↓z_seq_nrm, ↓z_move, ↓evW_tmp, ↓lkW_cons, reduceCtorEq, ↓reduceIte, ↓z_slice, ↓z_evO_none, ↓z_bo_none, ↓z_evO_some, ↓z_bo_some, ↓y_ty28, ↓z_seTy_sl, ↓y_sz5, ↓z_slc_sl_nh, ↓z_sub_map, ↓z_s2a, ↓y_ty57, ↓z_arTy, ↓z_s2a_sl, Int.reduceToNat, ↓z_load, ↓y_sz57, ↓z_agTy_arr, ↓loadW_rop, ↓z_rd_t, Nat.mul_one, List.length_map, List.length_take, List.length_drop, ↓z_store, Nat.reduceEqDiff, ↓z_cl_agg, ↓z_store_ptr, ↓lkoW_cons, Nat.reduceAdd, ↓spsW_cons, ↓drW_cons, Nat.reduceSub, ↓drW_nil, ↓z_cat_nil_r, ↓z_so_cons, ↓z_put_none, ↓z_ret, ↓z_end_rt, resLW, res1W, ↓z_coeL_cons, ↓z_coeL_nil, ↓z_pack2, D.tup.injEq, List.cons.injEq, and_true, ↓z_coe_int, ↓loadW_ptr, ↓z_coe_oag, ↓z_coeC_bytes, D.agg.injEq, true_and]); (try simp only [Int.toNat_natCast, Nat.mul_one, Bool.or_false, Bool.false_or, Bool.or_self, Bool.or_true])
  refine fun _ => ⟨by omega, by omega, by omega, by omega, ?_⟩
  simp [List.take_take]

theorem take16 (B : List UInt8) (i : Nat) : B.take ((i + 1) * 16) = B.take (i * 16) ++ (B.drop (i * 16)).take 16 := by
  rw [Nat.add_mul, Nat.one_mul, List.take_add]
theorem take16' (B : List UInt8) : (((B.take 16).drop 0).take 16) = B.take 16 := by simp [List.take_take]

/-- A list of digests: an encoding, from the row of its bytes. -/
def encD (n : Nat) (B : List UInt8) : List UInt8 := encI n ++ B

set_option maxRecDepth 100000 in
set_option maxHeartbeats 8000000 in
theorem fn_listDig (G : Glob) (n : Nat) (B : List UInt8) (hB : B.length = n * 16) (hn : n ≤ 100000) : FnS G Try.prog 40 [.sl 16 n (B.map bD), .fn 41 []] 1 (encD n B).length ((encD n B).map bD) := by
  refine FnS.mk (c := _) Try.func40 rfl rfl Try.ntmps40 Try.results40 ?_
  (simp -dsimp only [bodyW, List.length_cons, List.length_nil, Nat.zero_add, Nat.reduceAdd, Nat.reduceLeDiff, wfL, ↓z_seq, ↓z_region, ↓z_ops_plain, ↓z_assign, ↓evW_const, ↓constW_nils, ↓z_put, Nat.reduceLT, ↓z_ops_nil, ↓z_seq_nrm, ↓z_move, ↓evW_tmp, ↓lkW_cons, reduceCtorEq, ↓reduceIte, ↓z_lk_env, ↓z_callb, ↓z_evL_cons, ↓z_evL_nil, ↓z_len, ↓y_ty24, ↓z_ln_sl, ↓z_callv, ↓evW_func, ↓z_fun0, ↓z_coeL_cons, ↓z_coe_int, ↓z_coeL_nil, true_and])
  intro _ _
  refine call_own (fn_Int G n) fun _ => ?_
  have h10 := encI_len (v := n) (by omega) (by omega)
  (simp -dsimp only [↓z_new, ↓z_nm_nil, ↓z_pg_cons, ↓z_mn_int, ↓z_mn_sl, ↓z_mn_nils, ↓z_pg_env, ↓z_mn_fn, ↓z_pg_env0, ↓z_put, Nat.reduceLT, ↓z_ops_plain, ↓z_assign, ↓evW_tmp, ↓lkW_cons, ↓reduceIte, ↓z_ops_nil, ↓z_seq_nrm, ↓z_seq, ↓z_region, ↓z_move, reduceCtorEq, ↓z_callb, ↓z_evL_cons, ↓z_evL_nil, ↓z_len, ↓y_ty24, ↓z_ln_sl, ↓evW_const, ↓constW_int, inR_i64, Int.reduceNeg, Int.reduceLE, and_self, ↓z_block, ↓z_loop, true_and])
  refine hold_intro ⟨[], Nat, fun i => ⟨24, 1, [(13, .int .i64 i), (12, .int .i64 n), (11, .sl 16 n (B.map bD)), (1, .fn 41 []), (5, .osl 0 1 (encI n ++ B.take (i * 16)).length)], [(0, (encI n ++ B.take (i * 16)).map bD)]⟩,
    fun i => i ≤ n, fun i => n - i, ?_, ?_⟩
  · (simp -dsimp only [↓z_ad_nil, ↓z_wk, ↓z_wkE_cons, ↓lkW_cons, ↓reduceIte, D.int.injEq, true_and, Nat.reduceEqDiff, reduceCtorEq, Nat.zero_add, List.length_append, List.length_take, D.osl.injEq, ↓z_wkE_nil, and_true, ↓z_wkO_cons, ↓lkoW_cons, ↓z_wkO_nil]); (try simp only [Int.toNat_natCast, Nat.mul_one, Bool.or_false, Bool.false_or, Bool.or_self, Bool.or_true])
    exact ⟨0, by omega, by simp⟩
  · intro i hi
    (simp -dsimp only [↓z_seq, ↓z_region, ↓z_ops_plain, ↓z_binOp, ↓evW_tmp, ↓lkW_cons, ↓reduceIte, Nat.reduceEqDiff, ↓z_bn_lss, ↓z_put, Nat.reduceLT, ↓z_ops_nil, ↓z_seq_nrm, ↓z_cond, ↓z_cnd, ↓z_gdt, ↓z_skip, ↓z_block, ↓z_indexAddr, ↓y_ty24, ↓z_elTy_sl, ↓y_sz57, ↓z_ix_sl, ↓z_load, ↓y_ty57, ↓z_agTy_arr, ↓loadW_rop, ↓z_rd_t, List.length_map, ↓z_sub_map, ↓z_alloc, ↓y_zr57, ↓z_new, ↓z_nm_cons, ↓z_nmC_bytes, ↓z_nm_nil, ↓z_pg_cons, ↓z_mn_agg, ↓z_mn_rop, ↓z_mn_bool, ↓z_mn_int, ↓z_mn_sl, ↓z_mn_fn, ↓z_mn_osl, reduceCtorEq, ↓z_pg_nil, ↓z_store, ↓z_cl_agg, List.length_take, List.length_drop, ↓z_store_ptr, ↓lkoW_cons, Nat.zero_add, List.length_cons, List.length_nil, Nat.reduceAdd, Nat.reduceLeDiff, ↓spsW_cons, ↓drW_cons, Nat.reduceSub, ↓drW_nil, ↓z_cat_nil_r, ↓z_so_cons, ↓z_put_none, ↓z_move, ↓loadW_ptr, ↓z_callv, ↓z_evL_cons, ↓z_evL_nil, ↓z_fun0, ↓z_coeL_cons, ↓z_coe_oag, ↓z_coeC_bytes, ↓z_coeL_nil, true_and, ↓z_exit, ↓z_seq_ext, ↓z_lp_ext, ↓z_blk_ext, ↓z_assign, ↓z_ret, ↓z_end_rt, resLW, res1W, List.length_append, ↓z_own_osl, ↓z_allP_bytes, Nat.mul_one, z_ite]); (try simp only [Int.toNat_natCast])
    have hmul : i * 16 ≤ n * 16 := Nat.mul_le_mul_right _ hi
    have htl : (B.take (i * 16)).length = i * 16 := by rw [List.length_take]; omega
    refine ⟨fun hlt => ⟨by omega, by omega, by omega, by omega, by omega, call_own (fn_digest G _ (by rw [take16', List.length_take, List.length_drop]; omega)) fun _ => ?_⟩, fun hge => ?_⟩
    · (simp -dsimp only [↓z_new, ↓z_nm_cons, ↓z_nmC_bytes, ↓z_nm_nil, ↓z_pg_cons, ↓z_mn_oag, ↓z_mnL_bytes, ↓z_mn_fn, ↓z_mn_osl, Nat.reduceAdd, reduceCtorEq, ↓reduceIte, ↓z_mn_ptr, Nat.reduceEqDiff, ↓z_mn_agg, ↓z_mn_rop, ↓z_mn_bool, ↓z_mn_int, ↓z_mn_sl, ↓z_pg_nil, ↓z_put, Nat.reduceLT, ↓z_ops_plain, ↓z_callb, ↓z_evL_cons, ↓evW_tmp, ↓lkW_cons, ↓z_evL_nil, ↓z_append, ↓y_ty28, ↓z_slTy, ↓z_nint_sl, ↓y_sz5, ↓y_by5, ↓y_zr5, List.length_cons, List.length_nil, Nat.zero_add, ↓z_src_osl, ↓lkoW_cons, ↓z_allP_bytes, List.length_map, List.length_take, List.length_drop, Nat.mul_one, ↓z_app_osl, List.length_append, ↓z_room, Nat.reduceLeDiff, maxLen_lit, ↓z_so_cons, ↓z_assign, ↓z_ops_nil, ↓z_blk_nrm, ↓z_seq_nrm, ↓z_region, ↓z_binOp, ↓evW_const, ↓constW_int, inR_i64, Int.reduceNeg, Int.reduceLE, and_self, ↓z_bn_add, ↓wrW_i64, ↓z_move, ↓z_lp_nrm, ↓z_wk, ↓z_wkE_cons, D.int.injEq, true_and, D.osl.injEq, ↓z_wkE_nil, and_true, ↓z_wkO_cons, ↓z_wkO_nil]); (try simp only [Int.toNat_natCast, Nat.mul_one, Bool.or_false, Bool.false_or, Bool.or_self, Bool.or_true])
      have h3 : (B.take ((i + 1) * 16)).length = (i + 1) * 16 := by rw [List.length_take]; omega
      refine ⟨by omega, by omega, by omega, by omega, i + 1, by omega, by omega, ⟨by omega, by omega⟩, ?_⟩
      rw [take16' (B.drop (i * 16)), take16]
      simp
    · have : i = n := by omega
      subst this
      rw [← hB, List.take_of_length_le (Nat.le_refl _)]
      simp [encD]

set_option maxRecDepth 100000 in
set_option maxHeartbeats 8000000 in
theorem fn_Digests (G : Glob) (n : Nat) (B : List UInt8) (hB : B.length = n * 16) (hn : n ≤ 100000) : FnS G Try.prog 22 [.sl 16 n (B.map bD)] 1 (encD n B).length ((encD n B).map bD) := by
  refine FnS.mk (c := _) Try.func22 rfl rfl Try.ntmps22 Try.results22 ?_
  (simp -dsimp only [bodyW, List.length_cons, List.length_nil, Nat.zero_add, Nat.reduceLeDiff, wfL, ↓z_seq, ↓z_region, ↓z_ops_plain, ↓z_assign, ↓evW_const, ↓constW_nils, ↓z_put, Nat.reduceLT, ↓z_ops_nil, ↓z_seq_nrm, ↓z_move, ↓evW_tmp, ↓lkW_cons, reduceCtorEq, ↓reduceIte, ↓z_lk_env, ↓z_callv, ↓evW_func, ↓z_evL_cons, ↓z_evL_nil, ↓z_fun0, ↓z_coeL_cons, ↓z_coe_sl, ↓z_coe_fn, ↓z_coeL_nil, true_and])
  intro _
  refine call_own (fn_listDig G n B hB hn) fun _ => ?_
  (simp -dsimp only [↓z_new, ↓z_nm_nil, ↓z_pg_cons, ↓z_mn_sl, ↓z_mn_nils, ↓z_pg_env, ↓z_pg_env0, ↓z_put, Nat.reduceLT, ↓z_ops_plain, ↓z_assign, ↓evW_tmp, ↓lkW_cons, ↓reduceIte, ↓z_ops_nil, ↓z_seq_nrm, ↓z_ret, ↓z_end_rt, resLW, res1W, Nat.zero_add, ↓z_own_osl, ↓lkoW_cons, ↓z_allP_bytes, List.length_map, Nat.mul_one, and_self]); (try simp only [Int.toNat_natCast, Nat.mul_one, Bool.or_false, Bool.false_or, Bool.or_self, Bool.or_true])

set_option maxRecDepth 100000 in
set_option maxHeartbeats 8000000 in
theorem fn_refDigests (G : Glob) (n : Nat) (B : List UInt8) (hB : B.length = n * 16) (hn : n ≤ 100000) : FnS G Try.prog 23 [.sl 16 n (B.map bD)] 1 (encD n B).length ((encD n B).map bD) := by
  refine FnS.mk (c := _) Try.func23 rfl rfl Try.ntmps23 Try.results23 ?_
  (simp -dsimp only [bodyW, List.length_cons, List.length_nil, Nat.zero_add, Nat.reduceLeDiff, wfL, ↓z_seq, ↓z_region, ↓z_ops_plain, ↓z_assign, ↓evW_const, ↓constW_nils, ↓z_put, Nat.reduceLT, ↓z_ops_nil, ↓z_seq_nrm, ↓z_move, ↓evW_tmp, ↓lkW_cons, reduceCtorEq, ↓reduceIte, ↓z_lk_env, ↓z_callb, ↓z_evL_cons, ↓z_evL_nil, ↓z_len, ↓y_ty24, ↓z_ln_sl, ↓z_callv, ↓evW_func, ↓z_fun0, ↓z_coeL_cons, ↓z_coe_int, ↓z_coeL_nil, true_and])
  intro _
  refine call_own (fn_refInt G n) fun _ => ?_
  have h10 := encI_len (v := n) (by omega) (by omega)
  (simp -dsimp only [↓z_new, ↓z_nm_nil, ↓z_pg_cons, ↓z_mn_int, ↓z_mn_sl, ↓z_mn_nils, ↓z_pg_env, ↓z_pg_env0, ↓z_put, Nat.reduceLT, ↓z_ops_plain, ↓z_assign, ↓evW_tmp, ↓lkW_cons, ↓reduceIte, ↓z_ops_nil, ↓z_seq_nrm, ↓z_seq, ↓z_region, ↓evW_const, ↓constW_int, inR_i64, Int.reduceNeg, Int.reduceLE, and_self, ↓z_block, ↓z_loop, true_and])
  refine hold_intro ⟨[], Nat, fun i => ⟨21, 1, [(4, .int .i64 i), (0, .sl 16 n (B.map bD)), (3, .osl 0 1 (encI n ++ B.take (i * 16)).length)], [(0, (encI n ++ B.take (i * 16)).map bD)]⟩,
    fun i => i ≤ n, fun i => n - i, ?_, ?_⟩
  · (simp -dsimp only [↓z_ad_nil, ↓z_wk, ↓z_wkE_cons, ↓lkW_cons, ↓reduceIte, D.int.injEq, true_and, reduceCtorEq, Nat.reduceEqDiff, List.length_append, List.length_take, D.osl.injEq, ↓z_wkE_nil, and_true, ↓z_wkO_cons, ↓lkoW_cons, ↓z_wkO_nil]); (try simp only [Int.toNat_natCast, Nat.mul_one, Bool.or_false, Bool.false_or, Bool.or_self, Bool.or_true])
    exact ⟨0, by omega, by simp⟩
  · intro i hi
    (simp -dsimp only [↓z_seq, ↓z_region, ↓z_ops_plain, ↓z_move, ↓evW_tmp, ↓lkW_cons, ↓reduceIte, ↓z_put, Nat.reduceLT, reduceCtorEq, ↓z_callb, ↓z_evL_cons, ↓z_evL_nil, ↓z_len, ↓y_ty24, ↓z_ln_sl, ↓z_binOp, Nat.reduceEqDiff, ↓z_bn_lss, ↓z_ops_nil, ↓z_seq_nrm, ↓z_cond, ↓z_cnd, ↓z_gdt, ↓z_skip, ↓z_block, ↓z_indexAddr, ↓z_elTy_sl, ↓y_sz57, ↓z_ix_sl, ↓z_slice, ↓z_evO_none, ↓z_bo_none, ↓y_ty57, ↓z_seTy_arr, ↓y_sz5, ↓z_slc_rop_nn, Nat.mul_one, List.length_map, maxLen_lit, Nat.reduceLeDiff, ↓z_sub_map, ↓z_append, ↓y_ty28, ↓z_slTy, ↓z_nint_sl, ↓y_by5, ↓y_zr5, List.length_cons, List.length_nil, Nat.zero_add, ↓z_src_sl, ↓z_app_osl, ↓lkoW_cons, List.length_append, List.length_take, ↓z_room, ↓z_nm_cons, ↓z_nmC_bytes, ↓z_nm_nil, ↓z_pg_cons, ↓z_mn_sl, ↓z_mn_rop, ↓z_mn_int, ↓z_mn_osl, ↓z_mn_bool, ↓z_pg_nil, ↓z_so_cons, ↓z_assign, ↓z_blk_nrm, ↓evW_const, ↓constW_int, inR_i64, Int.reduceNeg, Int.reduceLE, and_self, ↓z_bn_add, ↓wrW_i64, ↓z_lp_nrm, ↓z_wk, ↓z_wkE_cons, D.int.injEq, true_and, D.osl.injEq, ↓z_wkE_nil, and_true, ↓z_wkO_cons, ↓z_wkO_nil, ↓z_exit, ↓z_seq_ext, ↓z_lp_ext, ↓z_blk_ext, ↓z_ret, ↓z_end_rt, resLW, res1W, ↓z_own_osl, ↓z_allP_bytes, z_ite]); (try simp only [Int.toNat_natCast])
    have hmul : i * 16 ≤ n * 16 := Nat.mul_le_mul_right _ hi
    have htl : (B.take (i * 16)).length = i * 16 := by rw [List.length_take]; omega
    refine ⟨fun hlt => ?_, fun hge => ?_⟩
    · have h3 : (B.take ((i + 1) * 16)).length = (i + 1) * 16 := by rw [List.length_take]; omega
      refine ⟨by omega, by omega, by omega, by omega, by omega, by omega, i + 1, by omega, by omega, ⟨by omega, by omega⟩, ?_⟩
      rw [take16]
      simp
    · have : i = n := by omega
      subst this
      rw [← hB, List.take_of_length_le (Nat.le_refl _)]
      simp [encD]
end Go.Abs

