/-
  HASH, thirteenth walks: the laws, first part.
-/
import Derived.Test.YtokenlcigigamaaDoorH12
namespace Go.Abs
open Go.Proofs
theorem keyZ_zeros {k : List UInt8} {n : Nat} (h : k.length + n ≤ 64) : keyZ (k ++ List.replicate n 0) = keyZ k := by
  unfold keyZ keyB
  rw [List.length_append, List.length_replicate, if_neg (by omega), if_neg (by omega), List.length_append, List.length_replicate, List.append_assoc, List.replicate_append_replicate]
  congr 2; omega
theorem keyZ_long {k : List UInt8} (h : 64 < k.length) : keyZ (sha k) = keyZ k := by
  have := sha_len k
  unfold keyZ keyB
  rw [if_neg (by omega), if_pos h]
theorem hmac_zeros {k m : List UInt8} {n : Nat} (h : k.length + n ≤ 64) : hmacL (k ++ List.replicate n 0) m = hmacL k m := by
  unfold hmacL padK; rw [keyZ_zeros h]
theorem hmac_long {k m : List UInt8} (h : 64 < k.length) : hmacL (sha k) m = hmacL k m := by
  unfold hmacL padK; rw [keyZ_long h]
theorem bs_zeros (n : Nat) (f : List UInt8 → Prop) : bsW (List.replicate n (D.int .u8 0)) f = f (List.replicate n 0) := by
  rw [show List.replicate n (D.int .u8 0) = (List.replicate n (0 : UInt8)).map bD from by rw [List.map_replicate]; rfl, bsW_map]
theorem nmTS_b (l : List UInt8) : nmTS [1] (l.map bD) := by
  induction l with
  | nil => trivial
  | cons x r ih => exact ⟨fun i _ => rfl, ih⟩
theorem expA_pre (s : List UInt8) (j : Nat) : ∀ k, j ≤ k → (expA s k).take (32 * j) = expA s j
  | 0, h => by obtain rfl : j = 0 := by omega
               rfl
  | k + 1, h => by
    rcases Nat.lt_or_ge k j with h1 | h1
    · obtain rfl : j = k + 1 := by omega
      exact List.take_of_length_le (by rw [expA_len]; omega)
    · rw [expA_s, List.take_append_of_le_length (by rw [expA_len]; omega), expA_pre s j k h1]
theorem expL_pre (s : List UInt8) {x y : Int} (h1 : 1 ≤ x) (h2 : x ≤ y) (h3 : y ≤ 1048576) : (expL s y).take x.toNat = expL s x := by
  unfold expL
  rw [if_neg (by omega), if_neg (by omega), List.take_take, show min x.toNat y.toNat = x.toNat by omega, ← expA_pre s ((x.toNat + 31) / 32) ((y.toNat + 31) / 32) (by omega), List.take_take, show min x.toNat (32 * ((x.toNat + 31) / 32)) = x.toNat by omega]
theorem expL_fst (s : List UInt8) {x : Int} (h1 : 1 ≤ x) (h2 : x ≤ 1048576) : (expL s x).take (min x 32).toNat = (hmacL s [0]).take (min x 32).toNat := by
  have e : expA s 1 = hmacL s [0] := by unfold expA; rw [show List.range 1 = [0] from rfl, List.flatMap_cons, List.flatMap_nil, List.append_nil]; rw [show encI ((0 : Nat) : Int) = [0] from by decide +kernel]
  unfold expL
  rw [if_neg (by omega), List.take_take, ← e, ← expA_pre s 1 ((x.toNat + 31) / 32) (by omega), List.take_take]
  congr 1; omega
theorem and255 (t : Int) : bits .and .i64 t 255 = t % 256 := by
  show IntKind.i64.wrap ((BitVec.ofInt 64 t &&& BitVec.ofInt 64 255).toNat : Int) = _
  rw [BitVec.toNat_and, BitVec.toNat_ofInt, show (BitVec.ofInt 64 255).toNat = 2 ^ 8 - 1 from by decide, Nat.and_two_pow_sub_one_eq_mod, IntKind.wrap_i64]
  omega
theorem tagB_255 (t : Int) : tagB (bits .and .i64 t 255) = tagB t := by
  rw [and255]; unfold tagB; rw [show t % 256 % 256 = t % 256 by omega]
theorem few_enc' : ∀ {l : List (List UInt8)}, (∀ x ∈ l, x.length ≤ 400) → (l.flatMap encB).length ≤ l.length * 420
  | [], _ => by simp
  | x :: l, h => by
    have h1 := few_enc' (l := l) fun y hy => h y (by simp [hy])
    have h2 := h x (by simp)
    have h3 := encB_len (s := x) (by omega)
    rw [List.flatMap_cons, List.length_append, List.length_cons]
    omega
theorem few_enc {l : List (List UInt8)} (h : fewP l) : (l.flatMap encB).length ≤ 1000000000 := by
  have := few_enc' h.2; have := h.1; omega
theorem few_p {l : List (List UInt8)} (h : fewP l) : ∀ x ∈ l, x.length ≤ 1000000 := fun x hx => by have := h.2 x hx; omega
set_option maxRecDepth 100000 in
set_option maxHeartbeats 8000000 in
theorem fn_LawSum (b : List UInt8) : Fn GK Tryd.prog 3 [.sl 1 b.length (b.map bD)] (.bool true) := by
  refine Fn.mk (c := _) Tryd.func3 rfl rfl Tryd.ntmps3 Tryd.results3 ?_
  (simp -dsimp only [bodyW, List.length_cons, List.length_nil, Nat.zero_add, Nat.reduceLeDiff, wfL, ↓z_seq, ↓z_region, ↓z_ops_plain, ↓z_assign, ↓evW_const, ↓constW_bool, ↓z_put, Nat.reduceLT, ↓z_ops_nil, ↓z_seq_nrm, ↓z_callv, ↓evW_func, ↓z_evL_nil, ↓z_fun0, ↓z_coeL_nil, true_and])
  intro hw
  have hb : b.length ≤ 9223372036854775807 := hw.1.1
  refine call_fn fn_sanity.gk fun _ => ?_
  (simp -dsimp only [↓z_put, Nat.reduceLT, ↓z_ops_plain, ↓z_assign, ↓evW_tmp, ↓lkW_cons, ↓reduceIte, ↓z_ops_nil, ↓z_seq_nrm, ↓z_seq, ↓z_region, ↓z_move, reduceCtorEq, ↓z_lk_env, ↓z_callb, ↓z_evL_cons, ↓z_evL_nil, ↓z_len, ↓y_ty22, ↓z_ln_sl, ↓z_binOp, ↓evW_const, ↓constW_int, inR_i64, Int.reduceNeg, Int.reduceLE, and_self, ↓z_bn_gtr, ↓z_cond, ↓z_cnd, ↓z_gdt, Nat.reduceEqDiff, ↓z_ret, ↓z_seq_rt, ↓z_end_rt, resLW, res1W, ↓z_envF_cons, ↓z_envF_nil, ↓z_coeL_cons, ↓z_coeL_nil, ↓z_pack1, ↓z_coe_bool, ↓z_skip, ↓z_convert, ↓y_ty9, ↓z_cvt_bs, ↓y_ty5, ↓z_u8, ↓z_cv_bs_sl, ↓bsW_map, ↓z_callv, ↓evW_func, ↓z_fun0, ↓z_coe_sl, true_and, z_ite])
  refine ⟨fun _ => trivial, fun h => ?_⟩
  have l := sha_len b
  refine call_fnL (fn_hSum b (by omega)).gk (flS_bytes _) fun _ => ?_
  (simp -dsimp only [↓z_put, Nat.reduceLT, ↓z_ops_plain, ↓z_alloc, ↓y_zr24, ↓z_new, ↓z_nm_nil, ↓z_pg_cons, ↓z_mn_agg, ↓z_mn_sl, ↓z_mn_str, ↓z_mn_bool, ↓z_mn_int, ↓z_pg_env, ↓z_pg_env0, ↓z_store, ↓evW_tmp, ↓lkW_cons, ↓reduceIte, Nat.reduceEqDiff, ↓y_sz24, ↓z_cl_agg, List.length_map, ↓z_store_ptr, ↓lkoW_cons, Nat.zero_add, List.length_cons, List.length_nil, Nat.reduceAdd, Nat.reduceLeDiff, ↓spsW_cons, ↓drW_cons, reduceCtorEq, Nat.reduceSub, ↓drW_nil, ↓z_cat_nil_r, ↓z_so_cons, ↓z_put_none, ↓z_ops_nil, ↓z_seq_nrm, ↓z_seq, ↓z_region_d, ↓y_mix, true_and])
  refine ⟨l, ?_⟩
  refine rgn_d (by decide +kernel) ?_
  (simp -dsimp only [↓z_drw_move, ↓z_drwS, ↓z_grd_none, ↓z_withE, ↓z_rd_tmp, ↓lkW_cons, Nat.reduceEqDiff, ↓reduceIte, ↓z_rd_nil, ↓z_ap_cons, ↓z_ap_nil, ↓z_or_move, ↓z_move, ↓evW_tmp, Nat.zero_add, and_true, ↓z_exD_all, ↓z_exD_eq, ↓z_put, Nat.reduceLT, ↓z_drwK, ↓z_drw_load, ↓z_grd, ↓z_dst_s, ↓z_dst_0, ↓z_grdD_b, ↓z_gtt, ↓z_or_load, ↓z_load, ↓y_ty24, ↓y_sz24, ↓z_agTy_arr, ↓loadW_ptr, ↓lkoW_cons, ↓z_rd_t, List.length_map, ↓z_sub_map, List.drop_zero, ↓z_exD_and, ↓z_drw_convert, ↓z_or_convert, ↓y_ty9, ↓y_ty22, ↓z_cvR_ss, ↓y_ty5, ↓z_ubW, ↓z_sdW, maxLen_lit, ↓z_drw_callv, ↓z_rd_func, true_and])
  refine ⟨by omega, by omega, ?_⟩
  refine ex_mk (.agg ((sha b).map bD)) (fun E => by (simp -dsimp only [↓z_ap_cons, ↓z_ap_nil, ↓z_callv, ↓evW_func, ↓z_evL_cons, ↓evW_tmp, ↓lkW_cons, ↓reduceIte, ↓z_evL_nil, ↓z_fun0, ↓z_coeL_cons, ↓z_coe_sl, ↓z_coeL_nil]); (try simp only [Int.toNat_natCast, Nat.mul_one, Bool.or_false, Bool.false_or, Bool.or_self, Bool.or_true]); exact call_fn (fn_rSum b (by omega)) fun _ => ⟨rfl, rfl⟩) ?_
  (simp -dsimp only [↓z_put, Nat.reduceLT, ↓z_drwK, ↓z_drw_binOp, ↓z_drwS, ↓z_grd, ↓z_dst_s, ↓z_dst_0, ↓lkW_cons, Nat.reduceEqDiff, ↓reduceIte, ↓z_grdD_b, ↓z_gtt, ↓z_withE, ↓z_rd_tmp, ↓z_rd_nil, ↓z_ap_cons, ↓z_ap_nil, ↓z_or_binOp, ↓z_binOp, ↓evW_tmp, ↓z_bn_oeql, ↓z_allP_bytes, ↓y_fk24, ↓kdM_bytes, List.length_take, Nat.zero_add, and_true, true_and, ↓z_exD_all, ↓z_exD_and, ↓z_exD_eq, ↓z_drw_pick, ↓z_grd_none, ↓z_rd_const, ↓z_or_pick, ↓z_pick, ↓z_pick_b, ↓z_drw_move, ↓z_or_move, ↓z_move, ↓z_geqt, reduceCtorEq, ↓z_drw_convert, ↓z_or_convert, ↓y_ty22, ↓y_ty9, ↓z_cvR_sl, ↓z_convert, ↓z_cvt_bs, ↓y_ty5, ↓z_u8, ↓z_cv_bs_sl, ↓bsW_map, ↓z_bn_seql, ↓z_drw_assign, ↓z_or_assign, ↓z_assign, ↓z_drw_nil, ↓z_seq_nrm, ↓z_ret, ↓z_end_rt, resLW, res1W, ↓z_coeL_cons, ↓z_coeL_nil, ↓z_pack1, ↓z_coe_bool, D.bool.injEq, decide_eq_true_eq, and_self, ↓z_gnt, ↓z_gtf, ↓evW_const, ↓constW_bool, Bool.not_true, and_false]); (try simp only [Int.toNat_natCast, Nat.mul_one, Bool.or_false, Bool.false_or, Bool.or_self, Bool.or_true])
  exact ⟨by omega, l, fun _ => trivial, fun h => absurd (by rw [List.take_of_length_le (by omega)]) h⟩
set_option maxRecDepth 100000 in
set_option maxHeartbeats 8000000 in
theorem fn_LawOf (t : Int) (parts : List (List UInt8)) : Fn GK Tryd.prog 5 [.int .i64 t, .sl 1 parts.length (parts.map D.str)] (.bool true) := by
  refine Fn.mk (c := _) Tryd.func5 rfl rfl Tryd.ntmps5 Tryd.results5 ?_
  (simp -dsimp only [bodyW, List.length_cons, List.length_nil, Nat.zero_add, Nat.reduceAdd, Nat.reduceLeDiff, wfL, ↓z_seq, ↓z_region, ↓z_ops_plain, ↓z_assign, ↓evW_const, ↓constW_bool, ↓z_put, Nat.reduceLT, ↓z_ops_nil, ↓z_seq_nrm, ↓z_callv, ↓evW_func, ↓z_evL_nil, ↓z_fun0, ↓z_coeL_nil, true_and])
  intro _ _
  refine call_fn fn_sanity.gk fun _ => ?_
  (simp -dsimp only [↓z_put, Nat.reduceLT, ↓z_ops_plain, ↓z_assign, ↓evW_tmp, ↓lkW_cons, ↓reduceIte, ↓z_ops_nil, ↓z_seq_nrm, ↓z_seq, ↓z_region, ↓z_move, Nat.reduceEqDiff, ↓z_lk_env, reduceCtorEq, Nat.zero_add, ↓z_callv, ↓evW_func, ↓z_evL_cons, ↓z_evL_nil, ↓z_fun0, ↓z_coeL_cons, ↓z_coe_sl, ↓z_coeL_nil, true_and])
  refine call_fn (fn_Few GK parts) fun _ => ?_
  (simp -dsimp only [↓z_put, Nat.reduceLT, ↓z_ops_plain, ↓z_unOp, ↓evW_tmp, ↓lkW_cons, ↓reduceIte, ↓z_un_not, ↓z_ops_nil, ↓z_seq_nrm, ↓z_cond, ↓z_cnd, ↓z_gnt, ↓z_gdf, ↓z_skip, ↓z_seq, ↓z_region, ↓z_move, reduceCtorEq, ↓z_lk_env, Nat.reduceEqDiff, Nat.zero_add, ↓z_callv, ↓evW_func, ↓z_evL_cons, ↓z_evL_nil, ↓z_fun0, ↓z_coeL_cons, ↓z_coe_int, ↓z_coe_sl, ↓z_coeL_nil, true_and, ↓z_assign, ↓z_ret, ↓z_seq_rt, ↓z_end_rt, resLW, res1W, ↓z_envF_cons, ↓z_envF_nil, ↓z_pack1, ↓z_coe_bool, and_self, z_ite])
  refine ⟨fun h => ?_, fun _ => trivial⟩
  have lo := ofD_len t parts
  refine call_fnL (fn_Of t parts (few_p h) (few_enc h)).gk (flS_bytes _) fun _ => ?_
  (simp -dsimp only [↓z_put, Nat.reduceLT, ↓z_ops_plain, ↓z_alloc, ↓y_zr41, ↓z_new, ↓z_nm_nil, ↓z_pg_cons, ↓z_mn_agg, ↓z_mn_sl, ↓z_mn_int, ↓z_mn_bool, ↓z_pg_env, ↓z_pg_env0, ↓z_store, ↓evW_tmp, ↓lkW_cons, ↓reduceIte, Nat.reduceEqDiff, ↓y_sz41, ↓z_cl_agg, List.length_map, ↓z_store_ptr, ↓lkoW_cons, Nat.zero_add, List.length_cons, List.length_nil, Nat.reduceAdd, Nat.reduceLeDiff, ↓spsW_cons, ↓drW_cons, reduceCtorEq, Nat.reduceSub, ↓drW_nil, ↓z_cat_nil_r, ↓z_so_cons, ↓z_put_none, ↓z_ops_nil, ↓z_seq_nrm, ↓z_seq, ↓z_region_d, ↓y_mix, true_and])
  refine ⟨lo, ?_⟩
  refine rgn_d (by decide +kernel) ?_
  (simp -dsimp only [↓z_drw_move, ↓z_drwS, ↓z_grd_none, ↓z_withE, ↓z_rd_tmp, ↓lkW_cons, Nat.reduceEqDiff, ↓reduceIte, ↓z_rd_nil, ↓z_ap_cons, ↓z_ap_nil, ↓z_or_move, ↓z_move, ↓evW_tmp, Nat.zero_add, and_true, ↓z_exD_all, ↓z_exD_eq, ↓z_put, Nat.reduceLT, ↓z_drwK, ↓z_drw_load, ↓z_grd, ↓z_dst_s, ↓z_dst_0, ↓z_grdD_b, ↓z_gtt, ↓z_or_load, ↓z_load, ↓y_ty41, ↓y_sz41, ↓z_agTy_arr, ↓loadW_ptr, ↓lkoW_cons, ↓z_rd_t, List.length_map, ↓z_sub_map, List.drop_zero, ↓z_exD_and, reduceCtorEq, ↓z_drw_callv, ↓z_rd_func, true_and])
  refine ⟨by omega, ?_⟩
  refine ex_mk (.agg ((ofD t parts).map bD)) (fun E => by (simp -dsimp only [↓z_ap_cons, ↓z_ap_nil, ↓z_callv, ↓evW_func, ↓z_evL_cons, ↓evW_tmp, ↓lkW_cons, ↓reduceIte, Nat.reduceEqDiff, ↓z_evL_nil, ↓z_fun0, ↓z_coeL_cons, ↓z_coe_int, ↓z_coe_sl, ↓z_coeL_nil]); (try simp only [Int.toNat_natCast, Nat.mul_one, Bool.or_false, Bool.false_or, Bool.or_self, Bool.or_true]); exact call_fn (fn_rOf t parts (few_p h) (few_enc h)) fun _ => ⟨rfl, rfl⟩) ?_
  (simp -dsimp only [↓z_put, Nat.reduceLT, ↓z_drwK, ↓z_drw_binOp, ↓z_drwS, ↓z_grd, ↓z_dst_s, ↓z_dst_0, ↓lkW_cons, Nat.reduceEqDiff, ↓reduceIte, ↓z_grdD_b, ↓z_gtt, ↓z_withE, ↓z_rd_tmp, ↓z_rd_nil, ↓z_ap_cons, ↓z_ap_nil, ↓z_or_binOp, ↓z_binOp, ↓evW_tmp, ↓z_bn_oeql, ↓z_allP_bytes, ↓y_fk41, ↓kdM_bytes, List.length_take, Nat.zero_add, and_true, true_and, ↓z_exD_all, ↓z_exD_and, ↓z_exD_eq, ↓z_drw_pick, ↓z_grd_none, ↓z_rd_const, ↓z_or_pick, ↓z_pick, ↓z_pick_b, ↓z_drw_move, ↓z_or_move, ↓z_move, ↓z_drw_load, ↓z_geqt, ↓z_or_load, ↓z_load, ↓y_ty41, ↓y_sz41, ↓z_agTy_arr, ↓loadW_ptr, ↓lkoW_cons, ↓z_rd_t, List.length_map, ↓z_sub_map, List.drop_zero, reduceCtorEq, ↓evW_const, ↓constW_int, inR_i64, Int.reduceNeg, Int.reduceLE, and_self, ↓z_bn_and, ↓z_drw_callv, ↓z_rd_func, ↓z_gnt, ↓z_gtf, ↓constW_bool, Bool.not_true, ↓z_drw_assign, ↓z_or_assign, ↓z_assign, ↓z_drw_nil, ↓z_seq_nrm, ↓z_ret, ↓z_end_rt, resLW, res1W, ↓z_coeL_cons, ↓z_coeL_nil, ↓z_pack1, ↓z_coe_bool, D.bool.injEq, and_false])
  refine ⟨by omega, lo, fun _ => ⟨by omega, ?_⟩, fun h => absurd (by rw [List.take_of_length_le (by omega)]) h⟩
  have e2 : ofD (bits .and .i64 t 255) parts = ofD t parts := by unfold ofD inpL; rw [tagB_255]
  have f2 : Fn GK Tryd.prog 20 [.int .i64 (bits .and .i64 t 255), .sl 1 parts.length (parts.map D.str)] (.agg ((ofD t parts).map bD)) := (fn_Of _ parts (few_p h) (few_enc h)).gk.out (by rw [e2])
  refine ex_mk (.agg ((ofD t parts).map bD)) (fun E => by (simp -dsimp only [↓z_ap_cons, ↓z_ap_nil, ↓z_callv, ↓evW_func, ↓z_evL_cons, ↓evW_tmp, ↓lkW_cons, ↓reduceIte, Nat.reduceEqDiff, ↓z_evL_nil, ↓z_fun0, ↓z_coeL_cons, ↓z_coe_int, ↓z_coe_sl, ↓z_coeL_nil]); (try simp only [Int.toNat_natCast, Nat.mul_one, Bool.or_false, Bool.false_or, Bool.or_self, Bool.or_true]); exact call_fnL f2 (flS_bytes _) fun _ => ⟨rfl, rfl⟩) ?_
  (simp -dsimp only [↓z_put, Nat.reduceLT, ↓z_drwK, ↓z_drw_binOp, ↓z_drwS, ↓z_grd, ↓z_dst_s, ↓z_dst_0, ↓lkW_cons, Nat.reduceEqDiff, ↓reduceIte, ↓z_grdD_b, ↓z_gtt, ↓z_withE, ↓z_rd_tmp, ↓z_rd_nil, ↓z_ap_cons, ↓z_ap_nil, ↓z_or_binOp, ↓z_binOp, ↓evW_tmp, ↓z_bn_oeql, ↓z_allP_bytes, ↓y_fk41, ↓kdM_bytes, List.length_take, Nat.zero_add, and_true, true_and, ↓z_exD_all, ↓z_exD_and, ↓z_exD_eq, ↓z_drw_pick, ↓z_grd_none, ↓z_rd_const, ↓z_or_pick, ↓z_pick, ↓z_pick_b, ↓z_drw_assign, ↓z_or_assign, ↓z_assign, ↓z_drw_nil, ↓z_seq_nrm, ↓z_ret, ↓z_end_rt, resLW, res1W, ↓z_coeL_cons, ↓z_coeL_nil, ↓z_pack1, ↓z_coe_bool, D.bool.injEq]); (try simp only [Int.toNat_natCast, Nat.mul_one, Bool.or_false, Bool.false_or, Bool.or_self, Bool.or_true])
  refine ⟨by omega, lo, ?_⟩
  rw [List.take_of_length_le (by omega), eqB_iff]
set_option maxRecDepth 100000 in
set_option maxHeartbeats 8000000 in
theorem fn_LawHmac (k m : List UInt8) : Fn GK Tryd.prog 7 [.str k, .str m] (.bool true) := by
  refine Fn.mk (c := _) Tryd.func7 rfl rfl Tryd.ntmps7 Tryd.results7 ?_
  (simp -dsimp only [bodyW, List.length_cons, List.length_nil, Nat.zero_add, Nat.reduceAdd, Nat.reduceLeDiff, wfL, ↓z_seq, ↓z_region, ↓z_ops_plain, ↓z_assign, ↓evW_const, ↓constW_bool, ↓z_put, Nat.reduceLT, ↓z_ops_nil, ↓z_seq_nrm, ↓z_callv, ↓evW_func, ↓z_evL_nil, ↓z_fun0, ↓z_coeL_nil, true_and])
  intro _ _
  refine call_fn fn_sanity.gk fun _ => ?_
  (simp -dsimp only [↓z_put, Nat.reduceLT, ↓z_ops_plain, ↓z_assign, ↓evW_tmp, ↓lkW_cons, ↓reduceIte, ↓z_ops_nil, ↓z_seq_nrm, ↓z_seq, ↓z_region, ↓z_move, reduceCtorEq, ↓z_lk_env, ↓z_callb, ↓z_evL_cons, ↓z_evL_nil, ↓z_len, ↓y_ty9, ↓z_ln_str, ↓z_binOp, ↓evW_const, ↓constW_int, inR_i64, Int.reduceNeg, Int.reduceLE, and_self, ↓z_bn_gtr, ↓z_ops_guard, ↓z_grd, ↓z_dst_s, ↓z_dst_0, ↓z_grdD_b, ↓z_gdf, Nat.reduceEqDiff, ↓z_gnf, ↓z_gft, ↓z_pick, ↓z_pick_b, ↓z_gnt, ↓z_gff, ↓constW_bool, ↓z_cond, ↓z_cnd, ↓z_gtt, ↓z_ret, ↓z_seq_rt, ↓z_end_rt, resLW, res1W, Bool.not_false, ↓z_envF_cons, Nat.zero_add, ↓z_envF_nil, ↓z_coeL_cons, ↓z_coeL_nil, ↓z_pack1, ↓z_coe_bool, ↓z_gdt, ↓z_skip, ↓z_callv, ↓evW_func, ↓z_fun0, ↓z_coe_str, true_and, z_ite])
  refine ⟨fun _ => trivial, fun h1 => ⟨fun _ => trivial, fun h2 => ?_⟩⟩
  have l := hmac_len k m
  refine call_fnL (fn_Hmac k m (by omega) (by omega)).gk (flS_bytes _) fun _ => ?_
  (simp -dsimp only [↓z_put, Nat.reduceLT, ↓z_ops_guard, ↓z_grd, ↓z_dst_s, ↓z_dst_0, ↓lkW_cons, Nat.reduceEqDiff, ↓reduceIte, ↓z_grdD_b, ↓z_gtt, ↓z_move, ↓evW_tmp, reduceCtorEq, ↓z_lk_env, Nat.zero_add, ↓z_callv, ↓evW_func, ↓z_evL_cons, ↓z_evL_nil, ↓z_fun0, ↓z_coeL_cons, ↓z_coe_str, ↓z_coeL_nil, true_and])
  refine call_fnL (fn_rHmac k m (by omega) (by omega)) (flS_bytes _) fun _ => ?_
  (simp -dsimp only [↓z_put, Nat.reduceLT, ↓z_ops_guard, ↓z_grd, ↓z_dst_s, ↓z_dst_0, ↓lkW_cons, Nat.reduceEqDiff, ↓reduceIte, ↓z_grdD_b, ↓z_gtt, ↓z_binOp, ↓evW_tmp, ↓z_bn_aeql, ↓y_fk24, ↓kdM_bytes, ↓z_ops_plain, ↓z_pick, ↓z_pick_b, ↓z_assign, ↓z_ops_nil, ↓z_seq_nrm, ↓z_ret, ↓z_end_rt, resLW, res1W, ↓z_envF_cons, Nat.zero_add, ↓z_envF_nil, ↓z_coeL_cons, ↓z_coeL_nil, ↓z_pack1, ↓z_coe_bool, D.bool.injEq, true_and]); (try simp only [Int.toNat_natCast, Nat.mul_one, Bool.or_false, Bool.false_or, Bool.or_self, Bool.or_true])
  exact ⟨l, l, by rw [eqB_iff]⟩
set_option maxRecDepth 100000 in
set_option maxHeartbeats 8000000 in
theorem fn_LawExpand (s : List UInt8) (n : Int) : Fn GK Tryd.prog 9 [.str s, .int .i64 n] (.bool true) := by
  refine Fn.mk (c := _) Tryd.func9 rfl rfl Tryd.ntmps9 Tryd.results9 ?_
  (simp -dsimp only [bodyW, List.length_cons, List.length_nil, Nat.zero_add, Nat.reduceAdd, Nat.reduceLeDiff, wfL, ↓z_seq, ↓z_region, ↓z_ops_plain, ↓z_assign, ↓evW_const, ↓constW_bool, ↓z_put, Nat.reduceLT, ↓z_ops_nil, ↓z_seq_nrm, ↓z_callv, ↓evW_func, ↓z_evL_nil, ↓z_fun0, ↓z_coeL_nil, true_and])
  intro _ _
  refine call_fn fn_sanity.gk fun _ => ?_
  (simp -dsimp only [↓z_put, Nat.reduceLT, ↓z_ops_plain, ↓z_assign, ↓evW_tmp, ↓lkW_cons, ↓reduceIte, ↓z_ops_nil, ↓z_seq_nrm, ↓z_seq, ↓z_region, ↓z_move, reduceCtorEq, ↓z_lk_env, ↓z_callb, ↓z_evL_cons, ↓z_evL_nil, ↓z_len, ↓y_ty9, ↓z_ln_str, ↓z_binOp, ↓evW_const, ↓constW_int, inR_i64, Int.reduceNeg, Int.reduceLE, and_self, ↓z_bn_gtr, ↓z_ops_guard, ↓z_grd, ↓z_dst_s, ↓z_dst_0, ↓z_grdD_b, ↓z_gdf, Nat.reduceEqDiff, ↓z_gnf, ↓z_gft, ↓z_grdD_u, ↓z_pick, ↓z_pick_b, ↓z_gnt, ↓z_gff, ↓constW_bool, ↓z_cond, ↓z_cnd, ↓z_gtt, ↓z_ret, ↓z_seq_rt, ↓z_end_rt, resLW, res1W, Bool.not_false, ↓z_envF_cons, Nat.zero_add, ↓z_envF_nil, ↓z_coeL_cons, ↓z_coeL_nil, ↓z_pack1, ↓z_coe_bool, ↓z_gdt, ↓z_bn_leq, ↓z_skip, ↓z_callv, ↓evW_func, ↓z_fun0, ↓z_coe_str, ↓z_coe_int, true_and, z_ite, ↓z_gtf])
  have fin : ∀ {S : St} {k : D → St → Prop} {b : Bool} {u : Tag (callW GK Tryd.prog 28 [.str s, .int .i64 n] b S k)}, s.length ≤ 400 → k (.str (expL s n)) S → hold (callW GK Tryd.prog 28 [.str s, .int .i64 n] b S k) u :=
    fun hl hk => call_fnL (fn_Expand s n (by omega)).gk rfl fun _ => hk
  have fin2 : ∀ {S : St} {k : D → St → Prop} {b : Bool} {u : Tag (callW GK Tryd.prog 29 [.str s, .int .i64 n] b S k)}, s.length ≤ 400 → k (.str (expL s n)) S → hold (callW GK Tryd.prog 29 [.str s, .int .i64 n] b S k) u :=
    fun hl hk => call_fnL (fn_rExpand s n (by omega)) rfl fun _ => hk
  refine ⟨fun _ => trivial, fun h1 => ⟨fun h2 => ⟨fun _ => trivial, fun h3 => fin (by omega) ?_⟩, fun h2 => fin (by omega) ?_⟩⟩
  · (simp -dsimp only [↓z_put, Nat.reduceLT, ↓z_ops_guard, ↓z_grd, ↓z_dst_s, ↓z_dst_0, ↓lkW_cons, Nat.reduceEqDiff, ↓reduceIte, ↓z_grdD_b, ↓z_gtt, ↓z_move, ↓evW_tmp, reduceCtorEq, ↓z_lk_env, Nat.zero_add, ↓z_callv, ↓evW_func, ↓z_evL_cons, ↓z_evL_nil, ↓z_fun0, ↓z_coeL_cons, ↓z_coe_str, ↓z_coe_int, ↓z_coeL_nil, true_and])
    refine fin2 (by omega) ?_
    (simp -dsimp only [↓z_put, Nat.reduceLT, ↓z_ops_guard, ↓z_grd, ↓z_dst_s, ↓z_dst_0, ↓lkW_cons, Nat.reduceEqDiff, ↓reduceIte, ↓z_grdD_b, ↓z_gtt, ↓z_binOp, ↓evW_tmp, ↓z_bn_seql, ↓z_ops_plain, ↓z_pick, ↓z_pick_b, ↓z_assign, ↓z_ops_nil, ↓z_seq_nrm, ↓z_ret, ↓z_end_rt, resLW, res1W, ↓z_envF_cons, Nat.zero_add, ↓z_envF_nil, ↓z_coeL_cons, ↓z_coeL_nil, ↓z_pack1, ↓z_coe_bool, D.bool.injEq, decide_eq_true_eq, and_self]); (try simp only [Int.toNat_natCast, Nat.mul_one, Bool.or_false, Bool.false_or, Bool.or_self, Bool.or_true])
  · (simp -dsimp only [↓z_put, Nat.reduceLT, ↓z_ops_guard, ↓z_grd, ↓z_dst_s, ↓z_dst_0, ↓lkW_cons, Nat.reduceEqDiff, ↓reduceIte, ↓z_grdD_b, ↓z_gtt, ↓z_move, ↓evW_tmp, reduceCtorEq, ↓z_lk_env, Nat.zero_add, ↓z_callv, ↓evW_func, ↓z_evL_cons, ↓z_evL_nil, ↓z_fun0, ↓z_coeL_cons, ↓z_coe_str, ↓z_coe_int, ↓z_coeL_nil, true_and])
    refine fin2 (by omega) ?_
    (simp -dsimp only [↓z_put, Nat.reduceLT, ↓z_ops_guard, ↓z_grd, ↓z_dst_s, ↓z_dst_0, ↓lkW_cons, Nat.reduceEqDiff, ↓reduceIte, ↓z_grdD_b, ↓z_gtt, ↓z_binOp, ↓evW_tmp, ↓z_bn_seql, ↓z_ops_plain, ↓z_pick, ↓z_pick_b, ↓z_assign, ↓z_ops_nil, ↓z_seq_nrm, ↓z_ret, ↓z_end_rt, resLW, res1W, Bool.not_true, ↓z_envF_cons, Nat.zero_add, ↓z_envF_nil, ↓z_coeL_cons, ↓z_coeL_nil, ↓z_pack1, ↓z_coe_bool, D.bool.injEq, decide_eq_true_eq, and_self]); (try simp only [Int.toNat_natCast, Nat.mul_one, Bool.or_false, Bool.false_or, Bool.or_self, Bool.or_true])
set_option maxRecDepth 100000 in
set_option maxHeartbeats 8000000 in
theorem fn_LawKeys (k m : List UInt8) (n : Int) (hn0 : 0 ≤ n) (hn : n ≤ 255) : Fn GH Tryd.prog 8 [.str k, .str m, .int .u8 n] (.bool true) := by
  refine Fn.mk (c := _) Tryd.func8 rfl rfl Tryd.ntmps8 Tryd.results8 ?_
  (simp -dsimp only [bodyW, List.length_cons, List.length_nil, Nat.zero_add, Nat.reduceAdd, Nat.reduceLeDiff, wfL, ↓z_seq, ↓z_region, ↓z_ops_plain, ↓z_assign, ↓evW_const, ↓constW_bool, ↓z_put, Nat.reduceLT, ↓z_ops_nil, ↓z_seq_nrm, ↓z_callv, ↓evW_func, ↓z_evL_nil, ↓z_fun0, ↓z_coeL_nil, true_and])
  intro _ _ _
  refine call_fn fn_sanity fun _ => ?_
  (simp -dsimp only [↓z_put, Nat.reduceLT, ↓z_ops_plain, ↓z_assign, ↓evW_tmp, ↓lkW_cons, ↓reduceIte, ↓z_ops_nil, ↓z_seq_nrm, ↓z_seq, ↓z_region, ↓z_move, reduceCtorEq, ↓z_lk_env, ↓z_callb, ↓z_evL_cons, ↓z_evL_nil, ↓z_len, ↓y_ty9, ↓z_ln_str, ↓z_binOp, ↓evW_const, ↓constW_int, inR_i64, Int.reduceNeg, Int.reduceLE, and_self, ↓z_bn_gtr, ↓z_ops_guard, ↓z_grd, ↓z_dst_s, ↓z_dst_0, ↓z_grdD_b, ↓z_gdf, Nat.reduceEqDiff, ↓z_gnf, ↓z_gft, ↓z_pick, ↓z_pick_b, ↓z_gnt, ↓z_gff, ↓constW_bool, ↓z_cond, ↓z_cnd, ↓z_gtt, ↓z_ret, ↓z_seq_rt, ↓z_end_rt, resLW, res1W, Bool.not_false, ↓z_envF_cons, Nat.zero_add, Nat.reduceAdd, ↓z_envF_nil, ↓z_coeL_cons, ↓z_coeL_nil, ↓z_pack1, ↓z_coe_bool, ↓z_gdt, ↓z_skip, ↓z_callv, ↓evW_func, ↓z_fun0, ↓z_coe_str, true_and, z_ite])
  refine ⟨fun _ => trivial, fun h1 => ⟨fun _ => trivial, fun h2 => ?_⟩⟩
  have l := hmac_len k m
  refine call_fnL (fn_Hmac k m (by omega) (by omega)) (flS_bytes _) fun _ => ?_
  (simp -dsimp only [↓z_put, Nat.reduceLT, ↓z_ops_plain, ↓z_alloc, ↓y_zr24, ↓z_new, ↓z_nm_nil, ↓z_pg_cons, ↓z_mn_agg, ↓z_mn_str, ↓z_mn_bool, ↓z_mn_int, ↓z_pg_env, ↓z_pg_env0, ↓z_store, ↓evW_tmp, ↓lkW_cons, ↓reduceIte, Nat.reduceEqDiff, ↓y_sz24, ↓z_cl_agg, List.length_map, ↓z_store_ptr, ↓lkoW_cons, Nat.zero_add, List.length_cons, List.length_nil, Nat.reduceAdd, Nat.reduceLeDiff, ↓spsW_cons, ↓drW_cons, reduceCtorEq, Nat.reduceSub, ↓drW_nil, ↓z_cat_nil_r, ↓z_so_cons, ↓z_put_none, ↓z_ops_nil, ↓z_seq_nrm, ↓z_seq, ↓z_region, ↓z_move, ↓z_callb, ↓z_evL_cons, ↓z_evL_nil, ↓z_len, ↓y_ty9, ↓z_ln_str, ↓z_binOp, ↓evW_const, ↓constW_int, inR_i64, Int.reduceNeg, Int.reduceLE, and_self, ↓z_bn_gtr, ↓z_cond, ↓z_cnd, ↓z_gdt, ↓z_convert, ↓y_ty22, ↓z_cvt_sb, ↓y_ty5, ↓z_u8, ↓z_cv_sb, maxLen_lit, ↓z_nm_cons, ↓z_nmC_bytes, ↓z_mn_ptr, ↓z_pg_nil, ↓z_callv, ↓evW_func, ↓z_fun0, ↓z_coeL_cons, ↓z_coe_osl, ↓z_allP_bytes, Nat.mul_one, ↓z_coeL_nil, true_and, ↓z_skip, ↓y_ty3, ↓z_cvt_int, ↓z_cv_int, ↓z_cvi_u8_i64, ↓z_bn_sub, ↓wrW_i64, ↓z_min, ↓z_mx_min, ↓z_mx_nil, ↓z_assign, ↓z_region_d, ↓y_mix, z_ite])
  refine ⟨l, fun h3 => ?_, fun h3 => ?_⟩
  · refine ⟨by omega, ?_⟩
    have ls := sha_len k
    refine call_fnL (fn_hSum k (by omega)) (flS_bytes _) fun _ => ?_
    (simp -dsimp only [↓z_put, Nat.reduceLT, ↓z_ops_plain, ↓z_alloc, ↓y_zr24, ↓z_new, ↓z_nm_cons, ↓z_nmC_bytes, ↓z_nm_nil, Nat.zero_add, Nat.reduceAdd, ↓z_pg_cons, ↓z_mn_agg, ↓z_mn_osl, Nat.reduceEqDiff, ↓reduceIte, ↓z_mn_str, ↓z_mn_bool, ↓z_mn_int, ↓z_mn_ptr, reduceCtorEq, ↓z_pg_nil, ↓z_store, ↓evW_tmp, ↓lkW_cons, ↓y_sz24, ↓z_cl_agg, List.length_map, ↓z_store_ptr, ↓lkoW_cons, List.length_cons, List.length_nil, Nat.reduceLeDiff, ↓spsW_cons, ↓drW_cons, Nat.reduceSub, ↓drW_nil, ↓z_cat_nil_r, ↓z_so_cons, ↓z_put_none, ↓z_ops_nil, ↓z_seq_nrm, ↓z_seq, ↓z_region_d, ↓y_mix, true_and])
    refine ⟨ls, ?_⟩
    refine rgn_d (by decide +kernel) ?_
    (simp -dsimp only [↓z_drw_move, ↓z_drwS, ↓z_grd_none, ↓z_withE, ↓z_rd_tmp, ↓lkW_cons, Nat.reduceEqDiff, ↓reduceIte, ↓z_rd_nil, ↓z_ap_cons, ↓z_ap_nil, ↓z_or_move, ↓z_move, ↓evW_tmp, Nat.zero_add, Nat.reduceAdd, and_true, ↓z_exD_all, ↓z_exD_eq, ↓z_put, Nat.reduceLT, ↓z_drwK, ↓z_drw_load, ↓z_grd, ↓z_dst_s, ↓z_dst_0, ↓z_grdD_b, ↓z_gtt, ↓z_or_load, ↓z_load, ↓y_ty24, ↓y_sz24, ↓z_agTy_arr, ↓loadW_ptr, ↓lkoW_cons, reduceCtorEq, ↓z_rd_t, List.length_map, ↓z_sub_map, List.drop_zero, ↓z_exD_and, ↓z_drw_callv, ↓z_rd_func, true_and])
    refine ⟨by omega, by omega, ?_⟩
    have g1 : Fn GH Tryd.prog 27 [.agg (((sha k).take 32).map bD)] (.str (sha k)) := (fn_Bytes32 GH (sha k) ls).inp (by rw [List.take_of_length_le (by omega)])
    have g2 : Fn GH Tryd.prog 25 [.str (sha k), .str m] (.agg ((hmacL k m).map bD)) := (fn_Hmac (sha k) m (by omega) (by omega)).out (by rw [hmac_long (by omega)])
    refine ex_mk (.str (sha k)) (fun E => by (simp -dsimp only [↓z_ap_cons, ↓z_ap_nil, ↓z_callv, ↓evW_func, ↓z_evL_cons, ↓evW_tmp, ↓lkW_cons, ↓reduceIte, ↓z_evL_nil, ↓z_fun0, ↓z_coeL_cons, ↓z_coe_oag, ↓z_coeC_bytes, ↓z_coeL_nil]); (try simp only [Int.toNat_natCast, Nat.mul_one, Bool.or_false, Bool.false_or, Bool.or_self, Bool.or_true]); exact call_fnL g1 rfl fun _ => ⟨rfl, rfl⟩) ?_
    (simp -dsimp only [↓z_put, Nat.reduceLT, ↓z_drwK, ↓z_drw_move, ↓z_drwS, ↓z_grd, ↓z_dst_s, ↓z_dst_0, ↓lkW_cons, Nat.reduceEqDiff, ↓reduceIte, ↓z_grdD_b, ↓z_gtt, ↓z_withE, ↓z_rd_tmp, reduceCtorEq, Nat.zero_add, ↓z_rd_nil, ↓z_ap_cons, ↓z_ap_nil, ↓z_or_move, ↓z_move, ↓evW_tmp, Nat.reduceAdd, and_true, ↓z_exD_all, ↓z_exD_eq, ↓z_drw_callv, ↓z_rd_func, true_and])
    refine ex_mk (.agg ((hmacL k m).map bD)) (fun E => by (simp -dsimp only [↓z_ap_cons, ↓z_ap_nil, ↓z_callv, ↓evW_func, ↓z_evL_cons, ↓evW_tmp, ↓lkW_cons, ↓reduceIte, Nat.reduceEqDiff, ↓z_evL_nil, ↓z_fun0, ↓z_coeL_cons, ↓z_coe_str, ↓z_coeL_nil]); (try simp only [Int.toNat_natCast, Nat.mul_one, Bool.or_false, Bool.false_or, Bool.or_self, Bool.or_true]); exact call_fnL g2 (flS_bytes _) fun _ => ⟨rfl, rfl⟩) ?_
    (simp -dsimp only [↓z_put, Nat.reduceLT, ↓z_drwK, ↓z_drw_binOp, ↓z_drwS, ↓z_grd, ↓z_dst_s, ↓z_dst_0, ↓lkW_cons, Nat.reduceEqDiff, ↓reduceIte, ↓z_grdD_b, ↓z_gtt, ↓z_withE, ↓z_rd_tmp, ↓z_rd_nil, ↓z_ap_cons, ↓z_ap_nil, ↓z_or_binOp, ↓z_binOp, ↓evW_tmp, ↓z_bn_oeql, ↓z_allP_bytes, ↓y_fk24, ↓kdM_bytes, List.length_take, Nat.zero_add, Nat.reduceAdd, and_true, true_and, ↓z_exD_all, ↓z_exD_and, ↓z_exD_eq, ↓z_drw_pick, ↓z_grd_none, ↓z_rd_const, ↓z_or_pick, ↓z_pick, ↓z_pick_b, ↓z_drw_assign, ↓z_or_assign, ↓z_assign, ↓z_drw_nil, ↓z_seq_nrm, ↓z_ret, ↓z_seq_rt, ↓z_end_rt, resLW, res1W, ↓z_coeL_cons, ↓z_coeL_nil, ↓z_pack1, ↓z_coe_bool, D.bool.injEq]); (try simp only [Int.toNat_natCast, Nat.mul_one, Bool.or_false, Bool.false_or, Bool.or_self, Bool.or_true])
    refine ⟨by omega, l, ?_⟩
    rw [List.take_of_length_le (by omega), eqB_iff]
  · refine ⟨by omega, ?_⟩
    obtain ⟨z, hz, hz2⟩ : ∃ z : Nat, min n (64 - (k.length : Int)) = (z : Int) ∧ k.length + z ≤ 64 := ⟨(min n (64 - (k.length : Int))).toNat, by omega, by omega⟩
    rw [hz]
    refine rgn_c 10 [1] [50, 51, 52, 54] [5, 6, 7, 9] [(8, .ptr 0 0), (7, .bool true), (10, .int .i64 z), (0, .str k), (1, .str m)] [] [(0, (hmacL k m).map bD)] (by decide +kernel) ?_
    (simp -dsimp only [↓z_wkE_cons, ↓lkW_cons, Nat.reduceEqDiff, ↓reduceIte, reduceCtorEq, Nat.zero_add, ↓z_wkE_nil, and_self, ↓z_wkO_cons, ↓lkoW_cons, ↓z_wkO_nil, ↓z_nmTE_cons, ↓z_nmT_ptr, not_false_eq_true, ↓z_nmT_nil, ↓z_nmT_bool, ↓z_nmT_int, ↓z_nmT_str, ↓z_nmTE_nil, ↓z_noEs_cons, ↓z_noE_cons, ↓z_noE_nil, ↓z_noEs_nil, ↓z_inE_nil, List.take_succ_cons, List.take_zero, ↓z_drc_move, ↓z_nbW_cons, ↓z_nbW_nil, ↓z_drcS, ↓z_grd_none, ↓z_withE, ↓z_rd_tmp, ↓z_rd_nil, ↓z_ap_cons, ↓z_ap_nil, ↓z_apO_cons, ↓z_apO_nil, ↓z_or_move, ↓z_move, ↓evW_tmp, and_true, ↓z_exD_all, ↓z_exD_all2, ↓z_exD_eq, ↓z_put, Nat.reduceLT, ↓z_drcK, ↓z_drc_load, Nat.reduceAdd, ↓z_grd, ↓z_dst_s, ↓z_dst_0, ↓z_grdD_b, ↓z_gtt, ↓z_or_load, ↓z_load, ↓y_ty24, ↓y_sz24, ↓z_agTy_arr, ↓loadW_ptr, ↓z_rd_t, List.length_map, ↓z_sub_map, List.drop_zero, ↓z_exD_and, ↓z_nmT_oag, ↓z_drc_makeSlice, ↓z_putF_some, ↓z_dstP_some, ↓z_drc_convert, ↓z_drc_binOp, ↓z_drc_callv, ↓z_drc_nil, true_and])
    have g3 : Fn GH Tryd.prog 25 [.str (k ++ List.replicate z 0), .str m] (.agg ((hmacL k m).map bD)) := (fn_Hmac (k ++ List.replicate z 0) m (by rw [List.length_append, List.length_replicate]; omega) (by omega)).out (by rw [hmac_zeros hz2])
    refine ⟨by omega, nmTS_b _, ?_⟩
    refine ch_mk [(49, .int .i64 z)] (.osl 1 1 z) (some 1) 2 [(1, List.replicate z (.int .u8 0)), (0, (hmacL k m).map bD)] [(50, .osl 1 1 z)] rfl rfl (by simp) (by simp [ebW]) ⟨_, 46, rfl, rfl, .inl ⟨true, rfl, rfl⟩⟩ (fun E => ?_) ?_
    · (simp -dsimp only [↓z_ap_cons, ↓z_ap_nil, ↓z_makeSlice, ↓evW_tmp, ↓lkW_cons, ↓reduceIte, ↓z_mk, ↓y_ty22, ↓z_slTy, ↓y_sz5, ↓y_by5, ↓z_room, Nat.mul_one, maxLen_lit, ↓y_zr5, List.length_cons, List.length_nil, Nat.zero_add, ↓repW_one, ↓z_new, ↓z_nm_cons, ↓z_nmC_bytes, ↓z_nm_nil, Nat.reduceLT, ↓z_pg_cons, ↓z_mn_int, D.osl.injEq, true_and, Nat.reduceAdd]); (try simp only [Int.toNat_natCast])
      exact ⟨by omega, by omega, by omega, by simp [pgW, pE, purge, mn]⟩
    (simp -dsimp only [↓z_wkE_cons, ↓lkW_cons, Nat.reduceEqDiff, ↓reduceIte, ↓z_wkE_nil, and_self, ↓z_inE_cons, ↓z_memW_cons, ↓z_inE_nil, ↓z_wkO_cons, ↓lkoW_cons, reduceCtorEq, ↓z_wkO_nil, true_and]); (try simp only [Int.toNat_natCast, Nat.mul_one, Bool.or_false, Bool.false_or, Bool.or_self, Bool.or_true])
    refine ch_mk [] (.str (List.replicate z 0)) none 2 [(1, List.replicate z (.int .u8 0)), (0, (hmacL k m).map bD)] [(51, .str (List.replicate z 0))] rfl rfl (by simp) (by simp [ebW]) ⟨_, 46, rfl, rfl, .inl ⟨true, rfl, rfl⟩⟩ (fun E => ?_) ?_
    · (simp -dsimp only [↓z_ap_nil, ↓z_ap_cons, ↓z_convert, ↓evW_tmp, ↓lkW_cons, ↓reduceIte, ↓y_ty22, ↓y_ty9, ↓z_cvt_bs, ↓y_ty5, ↓z_u8, ↓z_cv_bs_osl, ↓z_src_osl, ↓lkoW_cons, Nat.mul_one, D.str.injEq, true_and]); (try simp only [Int.toNat_natCast, Nat.mul_one, Bool.or_false, Bool.false_or, Bool.or_self, Bool.or_true])
      refine ⟨fun d hd => by rw [List.mem_replicate] at hd; rw [hd.2]; rfl, by simp, ?_⟩
      rw [bs_zeros]; exact ⟨rfl, rfl⟩
    (simp -dsimp only [↓z_wkE_nil, ↓z_inE_cons, ↓z_memW_cons, Nat.reduceEqDiff, ↓reduceIte, ↓z_inE_nil, and_self, ↓z_wkO_cons, ↓lkoW_cons, reduceCtorEq, ↓z_wkO_nil, true_and]); (try simp only [Int.toNat_natCast, Nat.mul_one, Bool.or_false, Bool.false_or, Bool.or_self, Bool.or_true])
    refine ch_mk [(48, .str k)] (.str (k ++ List.replicate z 0)) none 2 [(1, List.replicate z (.int .u8 0)), (0, (hmacL k m).map bD)] [(52, .str (k ++ List.replicate z 0))] rfl rfl (by simp) (by simp [ebW]) ⟨_, 46, rfl, rfl, .inl ⟨true, rfl, rfl⟩⟩ (fun E => ?_) ?_
    · (simp -dsimp only [↓z_ap_cons, ↓z_ap_nil, ↓z_binOp, ↓evW_tmp, ↓lkW_cons, Nat.reduceEqDiff, ↓reduceIte, ↓z_bn_sadd, maxLen_lit, true_and]); (try simp only [Int.toNat_natCast, Nat.mul_one, Bool.or_false, Bool.false_or, Bool.or_self, Bool.or_true])
      exact ⟨by rw [List.length_replicate]; omega, rfl⟩
    (simp -dsimp only [↓z_wkE_cons, ↓lkW_cons, Nat.reduceEqDiff, ↓reduceIte, ↓z_wkE_nil, and_self, ↓z_inE_cons, ↓z_memW_cons, ↓z_inE_nil, ↓z_wkO_cons, ↓lkoW_cons, reduceCtorEq, ↓z_wkO_nil, true_and]); (try simp only [Int.toNat_natCast, Nat.mul_one, Bool.or_false, Bool.false_or, Bool.or_self, Bool.or_true])
    refine ch_mk [(53, .str m)] (.agg ((hmacL k m).map bD)) none 2 [(1, List.replicate z (.int .u8 0)), (0, (hmacL k m).map bD)] [(54, .agg ((hmacL k m).map bD))] rfl rfl (by simp) (by simp [ebW]) ⟨_, 46, rfl, rfl, .inl ⟨true, rfl, rfl⟩⟩ (fun E => ?_) ?_
    · (simp -dsimp only [↓z_ap_cons, ↓z_ap_nil, ↓z_callv, ↓evW_func, ↓z_evL_cons, ↓evW_tmp, ↓lkW_cons, ↓reduceIte, Nat.reduceEqDiff, ↓z_evL_nil, ↓z_fun0, ↓z_coeL_cons, ↓z_coe_str, ↓z_coeL_nil]); (try simp only [Int.toNat_natCast, Nat.mul_one, Bool.or_false, Bool.false_or, Bool.or_self, Bool.or_true])
      exact call_fnL g3 (flS_bytes _) fun _ => ⟨rfl, rfl⟩
    (simp -dsimp only [↓z_wkE_cons, ↓lkW_cons, Nat.reduceEqDiff, ↓reduceIte, ↓z_wkE_nil, and_self, ↓z_inE_cons, ↓z_memW_cons, ↓z_inE_nil, ↓z_wkO_cons, ↓lkoW_cons, reduceCtorEq, ↓z_wkO_nil, true_and]); (try simp only [Int.toNat_natCast, Nat.mul_one, Bool.or_false, Bool.false_or, Bool.or_self, Bool.or_true])
    refine ch_end ?_
    (simp -dsimp only [↓z_ap_cons, ↓z_ap_nil, List.drop_succ_cons, List.drop_zero, ↓z_ret, ↓z_end_rt, resLW, res1W, ↓z_coeL_cons, ↓z_coeL_nil, ↓z_pack1, ↓z_ops_guard, ↓z_grd, ↓z_dst_s, ↓z_dst_0, ↓lkW_cons, Nat.reduceEqDiff, ↓reduceIte, ↓z_grdD_b, ↓z_gtt, ↓z_binOp, ↓evW_tmp, ↓z_bn_oeql, ↓z_allP_bytes, ↓y_fk24, ↓kdM_bytes, List.length_take, ↓z_put, Nat.reduceLT, ↓z_ops_plain, ↓z_pick, ↓z_pick_b, ↓z_assign, ↓z_ops_nil, ↓z_seq_nrm, ↓z_coe_bool, D.bool.injEq, true_and]); (try simp only [Int.toNat_natCast, Nat.mul_one, Bool.or_false, Bool.false_or, Bool.or_self, Bool.or_true])
    refine ⟨by omega, l, ?_⟩
    rw [List.take_of_length_le (by omega), eqB_iff]
set_option maxRecDepth 100000 in
set_option maxHeartbeats 8000000 in
theorem fn_LawBegins (s : List UInt8) (a b : Int) (ha0 : 0 ≤ a) (ha : a ≤ 255) (hb0 : 0 ≤ b) (hb : b ≤ 255) : Fn GH Tryd.prog 10 [.str s, .agg [.int .u8 a, .int .u8 b]] (.bool true) := by
  refine Fn.mk (c := _) Tryd.func10 rfl rfl Tryd.ntmps10 Tryd.results10 ?_
  (simp -dsimp only [bodyW, List.length_cons, List.length_nil, Nat.zero_add, Nat.reduceAdd, Nat.reduceLeDiff, wfL, ↓z_seq, ↓z_region, ↓z_ops_plain, ↓z_box, ↓evW_tmp, ↓z_lk_env, reduceCtorEq, ↓reduceIte, ↓z_cl_agg, ↓z_nmC_cons, ↓z_mn'_int, ↓z_nmC_nil, and_self, ↓z_new, ↓z_nm_nil, Nat.reduceLT, ↓z_pg_env, ↓z_mn_str, ↓z_mn_agg, ↓z_pg_env0, ↓z_put, ↓z_assign, ↓evW_const, ↓constW_bool, ↓z_ops_nil, ↓z_seq_nrm, ↓z_callv, ↓evW_func, ↓z_evL_nil, ↓z_fun0, ↓z_coeL_nil, true_and])
  intro _ _
  refine call_fn fn_sanity fun _ => ?_
  (simp -dsimp only [↓z_put, Nat.reduceLT, ↓z_ops_plain, ↓z_assign, ↓evW_tmp, ↓lkW_cons, ↓reduceIte, ↓z_ops_nil, ↓z_seq_nrm, ↓z_seq, ↓z_region, ↓z_move, reduceCtorEq, ↓z_callb, ↓z_evL_cons, ↓z_evL_nil, ↓z_len, ↓y_ty9, ↓z_ln_str, ↓z_binOp, ↓evW_const, ↓constW_int, inR_i64, Int.reduceNeg, Int.reduceLE, and_self, ↓z_bn_gtr, ↓z_cond, ↓z_cnd, ↓z_gdt, Nat.reduceEqDiff, ↓z_ret, ↓z_seq_rt, ↓z_end_rt, resLW, res1W, Nat.zero_add, ↓z_coeL_cons, ↓z_coeL_nil, ↓z_pack1, ↓z_coe_bool, ↓z_skip, ↓z_region_d, ↓y_mix, true_and, z_ite])
  refine ⟨fun _ => trivial, fun h1 => ?_⟩
  refine rgn_d (by decide +kernel) ?_
  (simp -dsimp only [↓z_drw_indexAddr, ↓z_drwS, ↓z_grd_none, ↓z_withE, ↓z_rd_tmp, ↓lkW_cons, Nat.reduceEqDiff, ↓reduceIte, ↓z_rd_const, ↓z_rd_nil, ↓z_ap_cons, ↓z_ap_nil, ↓z_or_indexAddr, ↓z_indexAddr, ↓evW_tmp, ↓evW_const, ↓constW_int, inR_i64, Int.reduceNeg, Int.reduceLE, and_self, ↓y_ty45, ↓z_elTy_arr, ↓y_sz5, ↓z_ix_ptr, Int.reduceToNat, Nat.mul_one, Nat.zero_add, and_true, true_and, ↓z_exD_all, ↓z_exD_and, ↓z_exD_eq, ↓z_put, Nat.reduceLT, ↓z_drwK, ↓z_drw_load, ↓z_or_load, ↓z_load, ↓y_ty5, ↓z_agTy_int, ↓loadW_ptr, ↓lkoW_cons, ↓z_rd_f, ↓nthW_cons, reduceCtorEq, Nat.reduceSub, ↓z_drw_callb_min, ↓z_or_callv, ↓z_callb, ↓z_evL_cons, ↓z_evL_nil, ↓z_min, ↓z_mx_min, ↓z_mx_nil, ↓z_drw_convert, ↓z_or_convert, ↓y_ty3, ↓z_cvR_int, ↓z_convert, ↓z_cvt_int, ↓z_cv_int, ↓z_cvi_u8_i64, ↓z_drw_binOp, ↓z_or_binOp, ↓z_binOp, ↓z_bn_add, ↓wrW_i64, ↓z_drw_callb_max, ↓z_max, ↓z_mx_max, ↓z_drw_assign, ↓z_or_assign, ↓z_assign, ↓z_drw_nil, ↓z_seq_nrm, ↓z_seq, ↓z_region, ↓z_ops_plain, ↓z_move, ↓z_callv, ↓evW_func, ↓z_fun0, ↓z_coeL_cons, ↓z_coe_str, ↓z_coe_int, ↓z_coeL_nil])
  refine ⟨by decide, by decide, by omega, by decide, by decide, by omega, ?_⟩
  have m1 : 1 ≤ 1 + min a b ∧ 1 + min a b ≤ 256 := by omega
  have m2 : 1 ≤ 1 + max a b ∧ 1 + max a b ≤ 256 := by omega
  have m3 : 1 + min a b ≤ 1 + max a b := by omega
  generalize 1 + min a b = x at *
  generalize 1 + max a b = y at *
  have lx := expL_len s (n := x) (by omega) (by omega)
  have ly := expL_len s (n := y) (by omega) (by omega)
  refine call_fnL (fn_Expand s x (by omega)) rfl fun _ => ?_
  (simp -dsimp only [↓z_put, Nat.reduceLT, ↓z_ops_plain, ↓z_move, ↓evW_tmp, ↓lkW_cons, reduceCtorEq, ↓reduceIte, Nat.reduceEqDiff, ↓z_callv, ↓evW_func, ↓z_evL_cons, ↓z_evL_nil, ↓z_fun0, ↓z_coeL_cons, ↓z_coe_str, ↓z_coe_int, ↓z_coeL_nil, true_and]); (try simp only [Int.toNat_natCast, Nat.mul_one, Bool.or_false, Bool.false_or, Bool.or_self, Bool.or_true])
  refine call_fnL (fn_Expand s y (by omega)) rfl fun _ => ?_
  (simp -dsimp only [↓z_put, Nat.reduceLT, ↓z_ops_plain, ↓z_assign, ↓evW_tmp, ↓lkW_cons, Nat.reduceEqDiff, ↓reduceIte, ↓z_ops_nil, ↓z_seq_nrm, ↓z_seq, ↓z_region, ↓z_move, ↓z_callb, ↓z_evL_cons, ↓z_evL_nil, ↓z_len, ↓y_ty9, ↓z_ln_str, ↓z_binOp, ↓z_bn_neq, ↓z_ops_guard, ↓z_grd, ↓z_dst_s, ↓z_dst_0, ↓z_grdD_b, ↓z_gdf, ne_eq, ↓z_gnf, ↓z_gft, ↓z_pick, ↓z_pick_b, ↓z_gnt, ↓z_gff, ↓evW_const, ↓constW_bool, ↓z_cond, ↓z_cnd, ↓z_gtt, ↓z_ret, ↓z_seq_rt, ↓z_end_rt, resLW, res1W, Bool.not_false, Nat.zero_add, ↓z_coeL_cons, ↓z_coeL_nil, ↓z_pack1, ↓z_coe_bool, D.bool.injEq, reduceCtorEq, true_and, ↓z_gdt, ↓z_skip, ↓z_callv, ↓evW_func, ↓constW_string, List.length_cons, List.length_nil, maxLen_lit, Nat.reduceLeDiff, ↓z_fun0, ↓z_coe_str, z_ite, Classical.not_not])
  refine ⟨fun h => absurd lx h, fun _ => ⟨fun h => absurd ly h, fun _ => ?_⟩⟩
  have lh := hmac_len s [0]
  refine call_fnL (fn_Hmac s [0] (by omega) (by decide)) (flS_bytes _) fun _ => ?_
  (simp -dsimp only [↓z_put, Nat.reduceLT, ↓z_ops_plain, ↓z_callv, ↓evW_func, ↓z_evL_cons, ↓evW_tmp, ↓lkW_cons, ↓reduceIte, ↓z_evL_nil, ↓z_fun0, ↓z_coeL_cons, ↓z_coe_agg, ↓z_coeL_nil, true_and]); (try simp only [Int.toNat_natCast, Nat.mul_one, Bool.or_false, Bool.false_or, Bool.or_self, Bool.or_true])
  refine call_fnL (fn_Bytes32 GH (hmacL s [0]) lh) rfl fun _ => ?_
  (simp -dsimp only [↓z_put, Nat.reduceLT, ↓z_ops_plain, ↓z_assign, ↓evW_tmp, ↓lkW_cons, ↓reduceIte, ↓z_ops_nil, ↓z_seq_nrm, ↓z_seq, ↓z_region_d, ↓y_mix, true_and]); (try simp only [Int.toNat_natCast, Nat.mul_one, Bool.or_false, Bool.false_or, Bool.or_self, Bool.or_true])
  refine rgn_d (by decide +kernel) ?_
  (simp -dsimp only [↓z_drw_move, ↓z_drwS, ↓z_grd_none, ↓z_withE, ↓z_rd_tmp, ↓lkW_cons, Nat.reduceEqDiff, ↓reduceIte, ↓z_rd_nil, ↓z_ap_cons, ↓z_ap_nil, ↓z_or_move, ↓z_move, ↓evW_tmp, Nat.zero_add, and_true, ↓z_exD_all, ↓z_exD_eq, ↓z_put, Nat.reduceLT, ↓z_drwK, ↓z_grd, ↓z_dst_s, ↓z_dst_0, ↓z_grdD_b, ↓z_gtt, ↓z_drw_slice, ↓z_oLn, ↓z_oL, List.nil_append, List.append_nil, ne_eq, ↓z_or_slice, ↓z_slice, ↓z_evO_none, ↓z_bo_none, ↓z_evO_some, ↓y_ty9, ↓z_seTy_str, ↓z_bo_some, ↓z_slc_str_nh, List.drop_zero, ↓z_exD_and, ↓z_drw_binOp, ↓z_or_binOp, ↓z_binOp, ↓z_bn_seql, ↓z_drw_pick, ↓z_rd_const, ↓z_or_pick, ↓z_pick, ↓z_pick_b, ↓z_gdt, ↓z_drw_callb_min, ↓z_or_callv, ↓z_callb, ↓z_evL_cons, ↓evW_const, ↓constW_int, inR_i64, Int.reduceNeg, Int.reduceLE, and_self, ↓z_evL_nil, ↓z_min, ↓z_mx_min, ↓z_mx_nil, true_and, ↓z_drw_assign, ↓z_or_assign, ↓z_assign, ↓z_drw_nil, ↓z_seq_nrm, ↓z_ret, ↓z_end_rt, resLW, res1W, ↓z_coeL_cons, ↓z_coeL_nil, ↓z_pack1, ↓z_coe_bool, D.bool.injEq, decide_eq_true_eq, ↓z_gnt, ↓z_gtf, ↓constW_bool, Bool.not_true, reduceCtorEq, and_false, z_ite]); (try simp only [Int.toNat_natCast, Nat.mul_one, Bool.or_false, Bool.false_or, Bool.or_self, Bool.or_true])
  exact ⟨by omega, by omega, fun _ => ⟨by omega, by omega, by omega, by omega, expL_fst s (by omega) (by omega)⟩, fun h => absurd (expL_pre s (by omega) (by omega) (by omega)) h⟩
end Go.Abs

