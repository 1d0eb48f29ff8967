/-
  HASH, eleventh walks: bytes that are derived from a seed; hexadecimal digits.
-/
import Derived.Test.YtokenlcigigamaaDoorH10
namespace Go.Abs
open Go.Proofs
def expA (seed : List UInt8) (k : Nat) : List UInt8 := (List.range k).flatMap fun (j : Nat) => hmacL seed (encI (j : Int))
theorem expA_s (seed : List UInt8) (k : Nat) : expA seed (k + 1) = expA seed k ++ hmacL seed (encI (k : Int)) := by unfold expA; rw [List.range_succ, List.flatMap_append]; simp
theorem expA_len (seed : List UInt8) : ∀ k, (expA seed k).length = 32 * k
  | 0 => rfl
  | k + 1 => by rw [expA_s, List.length_append, expA_len seed k, hmac_len]; omega
def expL (seed : List UInt8) (n : Int) : List UInt8 := if n < 1 ∨ 1048576 < n then [] else (expA seed ((n.toNat + 31) / 32)).take n.toNat
theorem expL_len (seed : List UInt8) {n : Int} (h1 : 1 ≤ n) (h2 : n ≤ 1048576) : ((expL seed n).length : Int) = n := by
  unfold expL
  rw [if_neg (by omega), List.length_take, expA_len]; omega
set_option maxRecDepth 100000 in
set_option maxHeartbeats 8000000 in
theorem fn_Expand (seed : List UInt8) (n : Int) (hk : seed.length ≤ 1000000000) : Fn GH Tryd.prog 28 [.str seed, .int .i64 n] (.str (expL seed n)) := by
  refine Fn.mk (c := _) Tryd.func28 rfl rfl Tryd.ntmps28 Tryd.results28 ?_
  (simp -dsimp only [bodyW, List.length_cons, List.length_nil, Nat.zero_add, Nat.reduceAdd, Nat.reduceLeDiff, wfL, ↓z_seq, ↓z_region, ↓z_ops_plain, ↓z_assign, ↓evW_const, ↓constW_string, maxLen_lit, ↓z_put, Nat.reduceLT, ↓z_ops_nil, ↓z_seq_nrm, ↓z_move, ↓evW_tmp, ↓lkW_cons, Nat.reduceEqDiff, ↓reduceIte, ↓z_lk_env, reduceCtorEq, ↓z_binOp, ↓constW_int, inR_i64, Int.reduceNeg, Int.reduceLE, and_self, ↓z_bn_lss, ↓z_ops_guard, ↓z_grd, ↓z_dst_s, ↓z_dst_0, ↓z_grdD_b, ↓z_gdf, ↓z_gnf, ↓z_gft, ↓z_pick, ↓z_pick_b, ↓z_gnt, ↓z_gff, ↓constW_bool, ↓z_cond, ↓z_cnd, ↓z_gtt, ↓z_ret, ↓z_seq_rt, ↓z_end_rt, resLW, res1W, Bool.not_false, ↓z_envF_cons, ↓z_envF_nil, ↓z_coeL_cons, ↓z_coeL_nil, ↓z_pack1, ↓z_coe_str, D.str.injEq, true_and, ↓z_bn_gtr, ↓z_gdt, ↓z_skip, ↓constW_nils, ↓z_block, ↓z_loop, z_ite])
  intro _ _
  have e0 : n < 1 ∨ 1048576 < n → [] = expL seed n := fun h => by unfold expL; rw [if_pos h]
  refine ⟨fun h => e0 (.inl h), fun h1 => ⟨fun h => e0 (.inr h), fun h2 => ?_⟩⟩
  obtain ⟨N, hN⟩ : ∃ N : Nat, n = N := ⟨n.toNat, by omega⟩
  subst hN
  have eL : expL seed (N : Int) = (expA seed ((N + 31) / 32)).take N := by unfold expL; rw [if_neg (by omega), Int.toNat_natCast]
  refine hold_intro ⟨[(5, 1)], Nat, fun k => ⟨32, 1, [(6, .int .i64 k), (5, .osl 0 1 (32 * k)), (0, .str seed), (1, .int .i64 N)], [(0, (expA seed k).map bD)]⟩, fun k => 32 * k < N + 32, fun k => N + 32 - 32 * k, ?_, ?_⟩
  · (simp -dsimp only [↓z_ad_cons, Nat.reduceLT, ↓lkW_cons, Nat.reduceEqDiff, ↓reduceIte, ↓z_nm_nil, ↓z_pg_cons, ↓z_mn_int, ↓z_mn_nils, ↓z_mn_bool, ↓z_mn_str, ↓z_pg_env, ↓z_pg_env0, ↓z_ad_nil, ↓z_wk, ↓z_wkE_cons, D.int.injEq, true_and, D.osl.injEq, reduceCtorEq, Nat.zero_add, ↓z_wkE_nil, and_self, and_true, ↓z_wkO_cons, ↓lkoW_cons, ↓z_wkO_nil]); (try simp only [Int.toNat_natCast, Nat.mul_one, Bool.or_false, Bool.false_or, Bool.or_self, Bool.or_true])
    exact ⟨0, by omega, ⟨rfl, rfl⟩, rfl⟩
  rintro k hk'
  have lk := expA_len seed k
  have lh := hmac_len seed (encI (k : Int))
  have li := encI_len (v := (k : Int)) (by omega) (by omega)
  (simp -dsimp only [↓z_seq, ↓z_region, ↓z_ops_plain, ↓z_move, ↓evW_tmp, ↓lkW_cons, Nat.reduceEqDiff, ↓reduceIte, ↓z_put, Nat.reduceLT, ↓z_callb, ↓z_evL_cons, ↓z_evL_nil, ↓z_len, ↓y_ty22, ↓z_ln_osl, reduceCtorEq, ↓z_binOp, ↓z_bn_lss, ↓z_ops_nil, ↓z_seq_nrm, ↓z_cond, ↓z_cnd, ↓z_gdt, ↓z_skip, ↓z_block, ↓z_callv, ↓evW_func, ↓z_fun0, ↓z_coeL_cons, ↓z_coe_int, ↓z_coeL_nil, true_and, ↓z_exit, ↓z_seq_ext, ↓z_lp_ext, ↓z_blk_ext, ↓z_slice, ↓z_evO_none, ↓z_bo_none, ↓z_evO_some, ↓z_bo_some, ↓z_seTy_sl, ↓y_sz5, ↓z_slc_osl_nh, ↓z_convert, ↓y_ty9, ↓z_cvt_bs, ↓y_ty5, ↓z_u8, ↓z_cv_bs_osw, ↓z_src_osw, ↓lkoW_cons, ↓z_allP_bytes, Nat.mul_one, Nat.zero_add, List.length_map, lk, ↓z_sub_map, ↓bsW_map, ↓z_assign, ↓z_ret, ↓z_end_rt, resLW, res1W, ↓z_pack1, ↓z_coe_str, D.str.injEq, z_ite]); (try simp only [Int.toNat_natCast])
  refine ⟨fun hlt => ?_, fun hge => ?_⟩
  · refine call_fn (fn_Int GH (k : Int)).fn fun _ => ?_
    (simp -dsimp only [↓z_put, Nat.reduceLT, ↓z_ops_plain, ↓z_convert, ↓evW_tmp, ↓lkW_cons, ↓reduceIte, ↓y_ty22, ↓y_ty9, ↓z_cvt_bs, ↓y_ty5, ↓z_u8, ↓z_cv_bs_sl, ↓bsW_map, ↓z_callv, ↓evW_func, ↓z_evL_cons, Nat.reduceEqDiff, ↓z_evL_nil, ↓z_fun0, ↓z_coeL_cons, ↓z_coe_str, ↓z_coeL_nil, true_and]); (try simp only [Int.toNat_natCast, Nat.mul_one, Bool.or_false, Bool.false_or, Bool.or_self, Bool.or_true])
    refine call_fn (fn_Hmac seed (encI (k : Int)) (by omega) (by omega)) fun _ => ?_
    (simp -dsimp only [↓z_put, Nat.reduceLT, ↓z_ops_plain, ↓z_alloc, ↓y_zr24, ↓z_new, ↓z_nm_cons, ↓z_nmC_bytes, ↓z_nm_nil, ↓z_pg_cons, ↓z_mn_agg, ↓z_mn_str, ↓z_mn_sl, ↓z_mn_int, ↓z_mn_bool, ↓z_mn_osl, reduceCtorEq, ↓reduceIte, ↓z_pg_nil, ↓z_store, ↓evW_tmp, ↓lkW_cons, Nat.reduceEqDiff, ↓y_sz24, ↓z_cl_agg, List.length_map, lh, ↓z_store_ptr, ↓lkoW_cons, Nat.zero_add, List.length_cons, List.length_nil, Nat.reduceAdd, Nat.reduceLeDiff, ↓spsW_cons, ↓drW_cons, Nat.reduceSub, ↓drW_nil, ↓z_cat_nil_r, ↓z_so_cons, ↓z_put_none, ↓z_ops_nil, ↓z_seq_nrm, ↓z_region, ↓z_move, ↓z_slice, ↓z_evO_none, ↓z_bo_none, ↓y_ty24, ↓z_seTy_arr, ↓y_sz5, ↓z_slc_ptr_nn, Nat.mul_one, maxLen_lit, ↓z_callb, ↓z_evL_cons, ↓z_evL_nil, ↓z_append, ↓y_ty22, ↓z_slTy, ↓z_nint_sl, ↓y_by5, ↓y_zr5, ↓z_src_osw, ↓z_allP_bytes, ↓z_sub_map, ↓z_app_osl, ↓z_room, ↓z_pgo_cons, ↓z_pgc_nm, ↓z_pgo_nil, ↓z_mn_osw, ↓z_mn_ptr, ↓z_assign, ↓z_blk_nrm, ↓z_binOp, ↓evW_const, ↓constW_int, inR_i64, Int.reduceNeg, Int.reduceLE, and_self, ↓z_bn_add, ↓wrW_i64, ↓z_lp_nrm, ↓z_wk, ↓z_wkE_cons, D.int.injEq, true_and, D.osl.injEq, ↓z_wkE_nil, and_true, ↓z_wkO_cons, List.drop_zero, ↓z_wkO_nil]); (try simp only [Int.toNat_natCast, Nat.mul_one, Bool.or_false, Bool.false_or, Bool.or_self, Bool.or_true])
    have tk : List.take 32 (hmacL seed (encI (k : Int))) = hmacL seed (encI (k : Int)) := List.take_of_length_le (by omega)
    exact ⟨lk, by omega, by omega, by omega, k + 1, by omega, by omega, ⟨by omega, by omega⟩, by rw [tk, expA_s, List.map_append]⟩
  · refine ⟨by omega, by omega, by omega, ?_⟩
    rw [List.drop_zero, eL, show (N + 31) / 32 = k by omega]
set_option maxRecDepth 100000 in
set_option maxHeartbeats 8000000 in
theorem fn_rExpand (seed : List UInt8) (n : Int) (hk : seed.length ≤ 1000000000) : Fn GK Tryd.prog 29 [.str seed, .int .i64 n] (.str (expL seed n)) := by
  refine Fn.mk (c := _) Tryd.func29 rfl rfl Tryd.ntmps29 Tryd.results29 ?_
  (simp -dsimp only [bodyW, List.length_cons, List.length_nil, Nat.zero_add, Nat.reduceAdd, Nat.reduceLeDiff, wfL, ↓z_seq, ↓z_region, ↓z_ops_plain, ↓z_assign, ↓evW_const, ↓constW_string, maxLen_lit, ↓z_put, Nat.reduceLT, ↓z_ops_nil, ↓z_seq_nrm, ↓z_move, ↓evW_tmp, ↓lkW_cons, Nat.reduceEqDiff, ↓reduceIte, ↓z_lk_env, reduceCtorEq, ↓z_binOp, ↓constW_int, inR_i64, Int.reduceNeg, Int.reduceLE, and_self, ↓z_bn_lss, ↓z_ops_guard, ↓z_grd, ↓z_dst_s, ↓z_dst_0, ↓z_grdD_b, ↓z_gdf, ↓z_gnf, ↓z_gft, ↓z_pick, ↓z_pick_b, ↓z_gnt, ↓z_gff, ↓constW_bool, ↓z_cond, ↓z_cnd, ↓z_gtt, ↓z_ret, ↓z_seq_rt, ↓z_end_rt, resLW, res1W, Bool.not_false, ↓z_envF_cons, ↓z_envF_nil, ↓z_coeL_cons, ↓z_coeL_nil, ↓z_pack1, ↓z_coe_str, D.str.injEq, true_and, ↓z_bn_gtr, ↓z_gdt, ↓z_skip, ↓z_block, ↓z_loop, z_ite])
  intro _ _
  have e0 : n < 1 ∨ 1048576 < n → [] = expL seed n := fun h => by unfold expL; rw [if_pos h]
  refine ⟨fun h => e0 (.inl h), fun h1 => ⟨fun h => e0 (.inr h), fun h2 => ?_⟩⟩
  obtain ⟨N, hN⟩ : ∃ N : Nat, n = N := ⟨n.toNat, by omega⟩
  subst hN
  have eL : expL seed (N : Int) = (expA seed ((N + 31) / 32)).take N := by unfold expL; rw [if_neg (by omega), Int.toNat_natCast]
  refine hold_intro ⟨[], Nat, fun k => ⟨32, 0, [(6, .int .i64 k), (5, .str (expA seed k)), (0, .str seed), (1, .int .i64 N)], []⟩, fun k => 32 * k < N + 32, fun k => N + 32 - 32 * k, ?_, ?_⟩
  · (simp -dsimp only [↓z_ad_nil, ↓z_wk, ↓z_wkE_cons, ↓lkW_cons, ↓reduceIte, D.int.injEq, true_and, Nat.reduceEqDiff, D.str.injEq, reduceCtorEq, ↓z_lk_env, Nat.zero_add, ↓z_wkE_nil, and_self, and_true, ↓z_wkO_nil]); (try simp only [Int.toNat_natCast, Nat.mul_one, Bool.or_false, Bool.false_or, Bool.or_self, Bool.or_true])
    exact ⟨0, by omega, rfl, rfl⟩
  rintro k hk'
  have lk := expA_len seed k
  have lh := hmac_len seed (encI (k : Int))
  have li := encI_len (v := (k : Int)) (by omega) (by omega)
  (simp -dsimp only [↓z_seq, ↓z_region, ↓z_ops_plain, ↓z_move, ↓evW_tmp, ↓lkW_cons, Nat.reduceEqDiff, ↓reduceIte, ↓z_put, Nat.reduceLT, ↓z_callb, ↓z_evL_cons, ↓z_evL_nil, ↓z_len, ↓y_ty9, ↓z_ln_str, reduceCtorEq, ↓z_binOp, ↓z_bn_lss, ↓z_ops_nil, ↓z_seq_nrm, ↓z_cond, ↓z_cnd, ↓z_gdt, lk, ↓z_skip, ↓z_block, ↓z_callv, ↓evW_func, ↓z_fun0, ↓z_coeL_cons, ↓z_coe_int, ↓z_coeL_nil, true_and, ↓z_exit, ↓z_seq_ext, ↓z_lp_ext, ↓z_blk_ext, ↓z_slice, ↓z_evO_none, ↓z_bo_none, ↓z_evO_some, ↓z_bo_some, ↓z_seTy_str, ↓z_slc_str_nh, ↓z_assign, ↓z_ret, ↓z_end_rt, resLW, res1W, ↓z_pack1, ↓z_coe_str, D.str.injEq, z_ite]); (try simp only [Int.toNat_natCast])
  refine ⟨fun hlt => ?_, fun hge => ?_⟩
  · refine call_fn (fn_refInt GK (k : Int)).fn fun _ => ?_
    (simp -dsimp only [↓z_put, Nat.reduceLT, ↓z_ops_plain, ↓z_convert, ↓evW_tmp, ↓lkW_cons, ↓reduceIte, ↓y_ty22, ↓y_ty9, ↓z_cvt_bs, ↓y_ty5, ↓z_u8, ↓z_cv_bs_sl, ↓bsW_map, ↓z_callv, ↓evW_func, ↓z_evL_cons, Nat.reduceEqDiff, ↓z_evL_nil, ↓z_fun0, ↓z_coeL_cons, ↓z_coe_str, ↓z_coeL_nil, true_and]); (try simp only [Int.toNat_natCast, Nat.mul_one, Bool.or_false, Bool.false_or, Bool.or_self, Bool.or_true])
    refine call_fn (fn_rHmac seed (encI (k : Int)) (by omega) (by omega)) fun _ => ?_
    (simp -dsimp only [↓z_put, Nat.reduceLT, ↓z_ops_plain, ↓z_alloc, ↓y_zr24, ↓z_new, ↓z_nm_nil, ↓z_pg_cons, ↓z_mn_agg, ↓z_mn_str, ↓z_mn_sl, ↓z_mn_int, ↓z_mn_bool, ↓z_pg_nil, ↓z_store, ↓evW_tmp, ↓lkW_cons, ↓reduceIte, Nat.reduceEqDiff, ↓y_sz24, ↓z_cl_agg, List.length_map, lh, ↓z_store_ptr, ↓lkoW_cons, Nat.zero_add, List.length_cons, List.length_nil, Nat.reduceAdd, Nat.reduceLeDiff, ↓spsW_cons, ↓drW_cons, reduceCtorEq, Nat.reduceSub, ↓drW_nil, ↓z_cat_nil_r, ↓z_so_cons, ↓z_put_none, ↓z_ops_nil, ↓z_seq_nrm, ↓z_region, ↓z_move, ↓z_load, ↓y_ty24, ↓z_agTy_arr, ↓loadW_ptr, ↓z_rd_t, ↓z_sub_map, ↓z_callv, ↓evW_func, ↓z_evL_cons, ↓z_evL_nil, ↓z_fun0, ↓z_coeL_cons, ↓z_coe_oag, ↓z_coeC_bytes, ↓z_coeL_nil, true_and])
    have tk : List.take 32 (hmacL seed (encI (k : Int))) = hmacL seed (encI (k : Int)) := List.take_of_length_le (by omega)
    refine call_fn ((fn_Bytes32 GK _ lh).inp (by rw [List.drop_zero, tk])) fun _ => ?_
    (simp -dsimp only [↓z_put, Nat.reduceLT, ↓z_ops_plain, ↓z_binOp, ↓evW_tmp, ↓lkW_cons, Nat.reduceEqDiff, ↓reduceIte, ↓z_bn_sadd, lk, lh, maxLen_lit, Nat.reduceLeDiff, ↓z_assign, ↓z_ops_nil, ↓z_blk_nrm, ↓z_seq_nrm, ↓z_region, ↓z_move, ↓evW_const, ↓constW_int, inR_i64, Int.reduceNeg, Int.reduceLE, and_self, ↓z_bn_add, ↓wrW_i64, ↓z_lp_nrm, ↓z_wk, ↓z_wkE_cons, D.int.injEq, true_and, D.str.injEq, reduceCtorEq, ↓z_wkE_nil, and_true, ↓z_wkO_nil]); (try simp only [Int.toNat_natCast, Nat.mul_one, Bool.or_false, Bool.false_or, Bool.or_self, Bool.or_true])
    exact ⟨by omega, by omega, k + 1, by omega, by omega, by omega, (expA_s seed k).symm⟩
  · refine ⟨by omega, by omega, ?_⟩
    rw [List.drop_zero, eL, show (N + 31) / 32 = k by omega]
def dgL : List UInt8 := [48, 49, 50, 51, 52, 53, 54, 55, 56, 57, 97, 98, 99, 100, 101, 102]
def hexB (x : UInt8) : List UInt8 := [dgL.getD (x.toNat / 16) 0, dgL.getD (x.toNat % 16) 0]
def hexL (s : List UInt8) : List UInt8 := s.flatMap hexB
theorem hexL_len : ∀ s, (hexL s).length = 2 * s.length
  | [] => rfl
  | x :: r => by rw [hexL, List.flatMap_cons, List.length_append, ← hexL, hexL_len r]; simp [hexB]; omega
set_option maxRecDepth 100000 in
set_option maxHeartbeats 8000000 in
theorem fn_hex (G : Glob) (s : List UInt8) (hs : s.length ≤ 1000000) : Fn G Tryd.prog 33 [.str s] (.str (hexL s)) := by
  refine Fn.mk (c := _) Tryd.func33 rfl rfl Tryd.ntmps33 Tryd.results33 ?_
  (simp -dsimp only [bodyW, List.length_cons, List.length_nil, Nat.zero_add, Nat.reduceLeDiff, wfL, ↓z_seq, ↓z_region, ↓z_ops_plain, ↓z_assign, ↓evW_const, ↓constW_string, maxLen_lit, ↓z_put, Nat.reduceLT, ↓z_ops_nil, ↓z_seq_nrm, Nat.reduceAdd, ↓constW_nils, ↓constW_int, inR_i64, Int.reduceNeg, Int.reduceLE, and_self, ↓z_block, ↓z_loop, true_and])
  intro _
  refine hold_intro ⟨[(4, 1)], Nat, fun i => ⟨29, 1, [(5, .int .i64 i), (4, .osl 0 1 (2 * i)), (3, .str dgL), (0, .str s)], [(0, (hexL (s.take i)).map bD)]⟩, fun i => i ≤ s.length, fun i => s.length - i, ?_, ?_⟩
  · (simp -dsimp only [↓z_ad_cons, Nat.reduceLT, ↓lkW_cons, Nat.reduceEqDiff, ↓reduceIte, ↓z_nm_nil, ↓z_pg_cons, ↓z_mn_int, ↓z_mn_nils, ↓z_mn_str, ↓z_pg_env, ↓z_pg_env0, ↓z_ad_nil, ↓z_wk, ↓z_wkE_cons, D.int.injEq, true_and, D.osl.injEq, D.str.injEq, reduceCtorEq, ↓z_wkE_nil, and_self, and_true, ↓z_wkO_cons, ↓lkoW_cons, ↓z_wkO_nil]); (try simp only [Int.toNat_natCast, Nat.mul_one, Bool.or_false, Bool.false_or, Bool.or_self, Bool.or_true])
    exact ⟨0, by omega, ⟨rfl, rfl, rfl⟩, rfl⟩
  rintro i hi
  have lx := hexL_len (s.take i)
  (simp -dsimp only [↓z_seq, ↓z_region, ↓z_ops_plain, ↓z_move, ↓evW_tmp, ↓lkW_cons, ↓reduceIte, ↓z_put, Nat.reduceLT, reduceCtorEq, ↓z_callb, ↓z_evL_cons, ↓z_evL_nil, ↓z_len, ↓y_ty9, ↓z_ln_str, ↓z_binOp, Nat.reduceEqDiff, ↓z_bn_lss, ↓z_ops_nil, ↓z_seq_nrm, ↓z_cond, ↓z_cnd, ↓z_gdt, ↓z_skip, ↓z_block, ↓z_region_d, ↓y_mix, true_and, ↓z_exit, ↓z_seq_ext, ↓z_lp_ext, ↓z_blk_ext, ↓z_convert, ↓y_ty22, ↓z_cvt_bs, ↓y_ty5, ↓z_u8, ↓z_cv_bs_osl, ↓z_src_osl, ↓lkoW_cons, ↓z_allP_bytes, List.length_map, lx, List.length_take, Nat.mul_one, ↓bsW_map, ↓z_assign, ↓z_ret, ↓z_end_rt, resLW, res1W, ↓z_coeL_cons, ↓z_coeL_nil, ↓z_pack1, ↓z_coe_str, D.str.injEq, z_ite])
  refine ⟨fun hlt => rgn_d (by decide +kernel) ?_, fun hge => ?_⟩
  · (simp -dsimp only [↓z_drw_move, ↓z_drwS, ↓z_grd_none, ↓z_withE, ↓z_rd_tmp, ↓lkW_cons, Nat.reduceEqDiff, ↓reduceIte, ↓z_rd_nil, ↓z_ap_cons, ↓z_ap_nil, ↓z_or_move, ↓z_move, ↓evW_tmp, and_true, ↓z_exD_all, ↓z_exD_eq, ↓z_put, Nat.reduceLT, ↓z_drwK, reduceCtorEq, ↓z_drw_index, ↓z_or_index, ↓z_index, ↓y_ty9, ↓z_in_str, ↓z_inx_str, ↓z_exD_and, ↓z_exD_ex, ↓z_drw_binOp, ↓z_rd_const, ↓z_or_binOp, ↓z_binOp, ↓evW_const, ↓constW_int, inR_u8, Int.reduceLE, and_self, ↓z_bn_quo, ↓z_quo_u8, ne_eq, Int.reduceEq, not_false_eq_true, true_and, ↓z_bn_rem, ↓z_rem_u8, ↓z_drw_buildSlice, ↓z_mpO_cons, ↓z_mpO_nil, ↓z_ap_app, ↓z_or_buildSlice, ↓z_buildSlice, ↓y_ty22, ↓z_slTy, ↓y_sz5, Nat.mul_one, Nat.reduceLeDiff, maxLen_lit, ↓y_zr5, List.length_cons, List.length_nil, Nat.zero_add, ↓z_repL_s, ↓z_repL_0, ↓z_cat_nil_r, ↓catW_cons, ↓catW_nil, ↓z_bld_cons, ↓z_cl_int, Nat.reduceAdd, ↓spsW_cons, ↓drW_cons, Nat.reduceSub, ↓drW_nil, ↓z_bld_nil, ↓z_allP_cons, ↓z_isP_int, ↓z_allP_nil, ↓z_drw_append, ↓z_ops_plain, ↓z_callb, ↓z_evL_cons, ↓z_evL_nil, ↓z_append, ↓z_nint_sl, ↓y_by5, ↓z_src_slx, ↓z_app_osl, ↓lkoW_cons, List.length_map, lx, List.length_take, ↓z_nmC_bytes, ↓z_room, ↓z_pgo_cons, ↓z_pgc_nm, ↓z_pgo_nil, ↓z_pg_cons, ↓z_mn_slx, ↓z_mn_int, ↓z_mn_str, ↓z_mn_osl, ↓z_mn_bool, ↓z_pg_nil, ↓z_so_cons, ↓z_assign, ↓z_ops_nil, ↓z_blk_nrm, ↓z_seq_nrm, ↓z_region, inR_i64, Int.reduceNeg, ↓z_bn_add, ↓wrW_i64, ↓z_lp_nrm, ↓z_wk, ↓z_wkE_cons, D.int.injEq, D.osl.injEq, ↓z_wkE_nil, ↓z_wkO_cons, ↓z_wkO_nil]); (try simp only [Int.toNat_natCast])
    have hx := s[i].toNat_lt
    have d16 : dgL.length = 16 := rfl
    refine ⟨by omega, by omega, by omega, by omega, by omega, by omega, by omega, by omega, by omega, by omega, by omega, by omega, i + 1, by omega, by omega, ⟨by omega, by omega⟩, ?_⟩
    have e1 : s.take (i + 1) = s.take i ++ [s[i]'(by omega)] := by simp
    have e2 : hexL (s.take (i + 1)) = hexL (s.take i) ++ hexB (s[i]'(by omega)) := by rw [e1]; unfold hexL; rw [List.flatMap_append]; simp
    have g : ∀ j (hj : j < dgL.length), dgL.getD j 0 = dgL[j] := fun j hj => by rw [List.getD_eq_getElem?_getD, List.getElem?_eq_getElem hj]; rfl
    rw [e2, List.map_append]
    unfold hexB
    rw [g _ (by omega), g _ (by omega)]
    rfl
  · exact ⟨by omega, by rw [List.take_of_length_le (by omega)]⟩
end Go.Abs

