/-
  PAD, third walks: books are used.
-/
import Derived.Test.YtjlbhapjhjmdfaaP2
namespace Go.Abs
open Go.Proofs

/-- A book. -/
def bk (l r : Int) (x : List (List UInt8)) : D := .agg [.int .i64 l, .int .i64 r, .sl 1 x.length (x.map D.str)]
def bk0 : D := .agg [.int .i64 0, .int .i64 0, .nils]

set_option maxRecDepth 100000 in
set_option maxHeartbeats 8000000 in
theorem fn_Same (G : Glob) (l r l' r' : Int) (x y : List (List UInt8)) : Fn G Try.prog 16 [bk l r x, bk l' r' y] (.bool (decide (l = l' ∧ r = r' ∧ x = y))) := by
  unfold bk
  refine Fn.mk (c := _) Try.func16 rfl rfl Try.ntmps16 Try.results16 ?_
  (simp -dsimp only [bodyW, List.length_cons, List.length_nil, Nat.zero_add, Nat.reduceAdd, Nat.reduceLeDiff, wfL, ↓z_seq, ↓z_region, ↓z_ops_plain, ↓z_box, ↓evW_tmp, ↓z_lk_env, ↓reduceIte, ↓z_cl_agg, ↓z_nmC_cons, ↓z_mn'_int, ↓z_mn'_sl, ↓z_nmC_nil, and_self, ↓z_new, ↓z_nm_nil, Nat.reduceLT, ↓z_pg_env, ↓z_mn_agg, ↓z_pg_env0, ↓z_put, ↓lkW_cons, Nat.reduceEqDiff, reduceCtorEq, ↓z_nm_cons, ↓z_pg_cons, ↓z_mn_ptr, ↓z_pg_nil, ↓z_assign, ↓evW_const, ↓constW_bool, ↓z_ops_nil, ↓z_seq_nrm, ↓z_fieldAddr, ↓y_fl24x0, ↓y_sz3, ne_eq, not_false_eq_true, ↓z_fa_ptr, ↓z_load, ↓y_ty3, ↓z_agTy_int, ↓loadW_ptr, ↓lkoW_cons, ↓z_rd_f, ↓nthW_cons, ↓z_binOp, ↓z_bn_neq, ↓z_move, ↓z_ops_guard, ↓z_grd, ↓z_dst_s, ↓z_dst_0, ↓z_grdD_b, ↓z_gdf, ↓z_gnf, ↓z_gft, ↓z_pick, ↓z_pick_b, ↓z_gnt, ↓z_gff, ↓z_gtf, ↓z_cond, ↓z_cnd, ↓z_gtt, ↓z_ret, ↓z_seq_rt, ↓z_end_rt, resLW, res1W, Bool.not_false, ↓z_coeL_cons, ↓z_coeL_nil, ↓z_pack1, ↓z_coe_bool, D.bool.injEq, true_and, ↓y_fl24x1, Nat.reduceSub, ↓y_fl24x2, ↓y_sz22, ↓y_ty22, ↓z_agTy_sl, ↓z_callb, ↓z_evL_cons, ↓z_evL_nil, ↓z_len, ↓z_ln_sl, ↓z_gdt, ↓z_skip, ↓constW_int, inR_i64, Int.reduceNeg, Int.reduceLE, ↓z_block, ↓z_loop, z_ite, Classical.not_not])
  intro hx hy
  have hb : x.length ≤ 9223372036854775807 := (hx.2 (.sl 1 x.length (x.map D.str)) (by simp)).1.1
  refine ⟨fun h => by simp [h], fun h1 => ⟨fun h => by simp [h], fun h2 => ⟨fun h => ?_, fun h3 => ?_⟩⟩⟩
  · have : x ≠ y := fun e => h (by rw [e])
    simp [this]
  have h3 : x.length = y.length := by omega
  refine hold_intro ⟨[], Nat, fun i => ⟨45, 2, [(5, .int .i64 i), (2, .ptr 0 0), (3, .ptr 1 0)], [(1, [.int .i64 l', .int .i64 r', .sl 1 y.length (y.map D.str)]), (0, [.int .i64 l, .int .i64 r, .sl 1 x.length (x.map D.str)])]⟩, fun i => i ≤ x.length ∧ x.take i = y.take i, fun i => x.length - i, ?_, ?_⟩
  · (simp -dsimp only [↓z_ad_nil, ↓z_wk, ↓z_wkE_cons, ↓lkW_cons, ↓reduceIte, D.int.injEq, true_and, Nat.reduceEqDiff, Nat.zero_add, ↓z_wkE_nil, and_self, and_true, ↓z_wkO_cons, ↓lkoW_cons, reduceCtorEq, ↓z_wkO_nil]); (try simp only [Int.toNat_natCast, Nat.mul_one, Bool.or_false, Bool.false_or, Bool.or_self, Bool.or_true])
    exact ⟨0, by simp⟩
  · rintro i ⟨hi, he⟩
    (simp -dsimp only [↓z_seq, ↓z_region, ↓z_ops_plain, ↓z_move, ↓evW_tmp, ↓lkW_cons, ↓reduceIte, ↓z_put, Nat.reduceLT, ↓z_fieldAddr, Nat.reduceEqDiff, ↓y_fl24x2, ↓y_sz22, ne_eq, reduceCtorEq, not_false_eq_true, ↓z_fa_ptr, ↓z_load, ↓y_ty22, ↓z_agTy_sl, ↓loadW_ptr, ↓lkoW_cons, ↓z_rd_f, ↓nthW_cons, Nat.zero_add, Nat.reduceSub, ↓z_callb, ↓z_evL_cons, ↓z_evL_nil, ↓z_len, ↓z_ln_sl, ↓z_binOp, ↓z_bn_lss, ↓z_ops_nil, ↓z_seq_nrm, ↓z_cond, ↓z_cnd, ↓z_gdt, ↓z_skip, ↓z_block, ↓z_region_d, ↓y_mix, true_and, ↓z_exit, ↓z_seq_ext, ↓z_lp_ext, ↓z_blk_ext, ↓z_assign, ↓evW_const, ↓constW_bool, ↓z_ret, ↓z_end_rt, resLW, res1W, ↓z_coeL_cons, ↓z_coeL_nil, ↓z_pack1, ↓z_coe_bool, D.bool.injEq, z_ite])
    refine ⟨fun h => rgn_q (by decide +kernel) rfl ?_, fun h => ?_⟩
    · (simp -dsimp only [↓z_ops_plain, ↓z_fieldAddr, ↓evW_tmp, ↓lkW_cons, Nat.reduceEqDiff, ↓reduceIte, ↓y_fl24x2, ↓y_sz22, ne_eq, reduceCtorEq, not_false_eq_true, ↓z_fa_ptr, ↓z_put, Nat.reduceLT, ↓z_load, ↓y_ty22, ↓z_agTy_sl, ↓loadW_ptr, ↓lkoW_cons, ↓z_rd_f, ↓nthW_cons, Nat.zero_add, Nat.reduceSub, ↓z_move, ↓z_indexAddr, ↓z_elTy_sl, ↓y_sz9, ↓z_ix_sl, ↓y_ty9, ↓z_agTy_str, ↓loadW_rop, ↓z_nth_str, ↓z_binOp, ↓z_bn_sneq, ↓z_ops_nil, ↓z_seq_nrm, ↓z_cond, ↓z_cnd, ↓z_gdt, Nat.mul_one, ↓z_seq, ↓z_region, ↓z_assign, ↓evW_const, ↓constW_bool, ↓z_ret, ↓z_blk_rt, ↓z_seq_rt, ↓z_lp_rt, ↓z_end_rt, resLW, res1W, ↓z_coeL_cons, ↓z_coeL_nil, ↓z_pack1, ↓z_coe_bool, D.bool.injEq, true_and, ↓z_skip, ↓z_blk_nrm, ↓constW_int, inR_i64, Int.reduceNeg, Int.reduceLE, and_self, ↓z_bn_add, ↓wrW_i64, ↓z_lp_nrm, ↓z_wk, ↓z_wkE_cons, D.int.injEq, ↓z_wkE_nil, and_true, ↓z_wkO_cons, ↓z_wkO_nil, z_ite, Classical.not_not]); (try simp only [Int.toNat_natCast])
      refine ⟨by omega, h, by omega, by omega, by omega, by omega, fun hne => ?_, fun heq => ⟨by omega, i + 1, ⟨by omega, ?_⟩, by omega, by omega⟩⟩
      · have : x ≠ y := fun e => hne (by subst e; rfl)
        simp [this]
      · have a1 : x.take (i + 1) = x.take i ++ [x[i]] := by simp
        have a2 : y.take (i + 1) = y.take i ++ [y[i]] := by simp
        rw [a1, a2, he, heq]
    · have : x = y := by
        rw [List.take_of_length_le (by omega), List.take_of_length_le (by omega)] at he; exact he
      simp [h1, h2, this]
set_option maxRecDepth 100000 in
set_option maxHeartbeats 8000000 in
theorem fn_Same0 (G : Glob) : Fn G Try.prog 16 [bk0, bk0] (.bool true) := by
  unfold bk0
  refine Fn.mk (c := _) Try.func16 rfl rfl Try.ntmps16 Try.results16 ?_
  (simp -dsimp only [bodyW, List.length_cons, List.length_nil, Nat.zero_add, Nat.reduceAdd, Nat.reduceLeDiff, wfL, ↓z_seq, ↓z_region, ↓z_ops_plain, ↓z_box, ↓evW_tmp, ↓z_lk_env, ↓reduceIte, ↓z_cl_agg, ↓z_nmC_cons, ↓z_mn'_int, ↓z_mn'_nils, ↓z_nmC_nil, and_self, ↓z_new, ↓z_nm_nil, Nat.reduceLT, ↓z_pg_env, ↓z_mn_agg, ↓z_pg_env0, ↓z_put, ↓lkW_cons, Nat.reduceEqDiff, reduceCtorEq, ↓z_nm_cons, ↓z_pg_cons, ↓z_mn_ptr, ↓z_pg_nil, ↓z_assign, ↓evW_const, ↓constW_bool, ↓z_ops_nil, ↓z_seq_nrm, ↓z_fieldAddr, ↓y_fl24x0, ↓y_sz3, ne_eq, not_false_eq_true, ↓z_fa_ptr, ↓z_load, ↓y_ty3, ↓z_agTy_int, ↓loadW_ptr, ↓lkoW_cons, ↓z_rd_f, ↓nthW_cons, ↓z_binOp, ↓z_bn_neq, ↓z_move, ↓z_ops_guard, ↓z_grd, ↓z_dst_s, ↓z_dst_0, ↓z_grdD_b, ↓z_gdf, not_true_eq_false, ↓y_fl24x1, ↓z_gff, Nat.reduceSub, ↓z_pick, ↓z_pick_b, ↓z_gft, ↓y_fl24x2, ↓y_sz22, ↓y_ty22, ↓z_agTy_sl, ↓z_callb, ↓z_evL_cons, ↓z_evL_nil, ↓z_len, ↓z_ln_nils, ↓z_cond, ↓z_cnd, ↓z_gdt, ↓z_skip, ↓constW_int, inR_i64, Int.reduceNeg, Int.reduceLE, ↓z_block, ↓z_loop, true_and])
  intro _ _
  refine hold_intro ⟨[], Unit, fun _ => ⟨45, 2, [(5, .int .i64 0), (2, .ptr 0 0), (3, .ptr 1 0)], [(1, [.int .i64 0, .int .i64 0, .nils]), (0, [.int .i64 0, .int .i64 0, .nils])]⟩, fun _ => True, fun _ => 0, ?_, ?_⟩
  · (simp -dsimp only [↓z_ad_nil, ↓z_wk, ↓z_wkE_cons, ↓lkW_cons, ↓reduceIte, Nat.reduceEqDiff, Nat.zero_add, ↓z_wkE_nil, and_self, ↓z_wkO_cons, ↓lkoW_cons, reduceCtorEq, ↓z_wkO_nil]); (try simp only [Int.toNat_natCast, Nat.mul_one, Bool.or_false, Bool.false_or, Bool.or_self, Bool.or_true])
    exact ⟨(), trivial⟩
  · rintro _ _
    (simp -dsimp only [↓z_seq, ↓z_region, ↓z_ops_plain, ↓z_move, ↓evW_tmp, ↓lkW_cons, ↓reduceIte, ↓z_put, Nat.reduceLT, ↓z_fieldAddr, Nat.reduceEqDiff, ↓y_fl24x2, ↓y_sz22, ne_eq, reduceCtorEq, not_false_eq_true, ↓z_fa_ptr, ↓z_load, ↓y_ty22, ↓z_agTy_sl, ↓loadW_ptr, ↓lkoW_cons, ↓z_rd_f, ↓nthW_cons, Nat.zero_add, Nat.reduceSub, ↓z_callb, ↓z_evL_cons, ↓z_evL_nil, ↓z_len, ↓z_ln_nils, ↓z_binOp, ↓z_bn_lss, ↓z_ops_nil, ↓z_seq_nrm, ↓z_cond, ↓z_cnd, ↓z_gdt, Int.reduceLT, ↓z_exit, ↓z_seq_ext, ↓z_lp_ext, ↓z_blk_ext, ↓z_assign, ↓evW_const, ↓constW_bool, ↓z_ret, ↓z_end_rt, resLW, res1W, ↓z_coeL_cons, ↓z_coeL_nil, ↓z_pack1, ↓z_coe_bool, and_self]); (try simp only [Int.toNat_natCast, Nat.mul_one, Bool.or_false, Bool.false_or, Bool.or_self, Bool.or_true])
set_option maxRecDepth 100000 in
set_option maxHeartbeats 8000000 in
theorem fn_fail (G : Glob) (e : Int) : Fn G Try.prog 21 [.int .i64 e] (.tup [.str [], bk0, .int .i64 e]) := by
  unfold bk0
  refine Fn.mk (c := _) Try.func21 rfl rfl Try.ntmps21 Try.results21 ?_
  (simp -dsimp only [bodyW, List.length_cons, List.length_nil, Nat.zero_add, Nat.reduceLeDiff, wfL, ↓z_seq, ↓z_region, ↓z_ops_plain, ↓z_assign, ↓evW_const, ↓constW_string, maxLen_lit, ↓z_put, Nat.reduceLT, ↓z_alloc, ↓y_zr24, ↓z_new, ↓z_nm_nil, ↓z_pg_cons, ↓z_mn_str, ↓z_pg_env, ↓z_mn_int, ↓z_pg_env0, ↓constW_int, inR_i64, Int.reduceNeg, Int.reduceLE, and_self, ↓z_ops_nil, ↓z_seq_nrm, ↓z_build, ↓y_ty24, ↓z_blTy_st, ↓z_bld_nil, ↓z_move, ↓evW_tmp, ↓lkW_cons, reduceCtorEq, ↓reduceIte, ↓z_store, Nat.reduceEqDiff, ↓y_sz24, ↓z_cl_oag, Nat.reduceAdd, ↓z_store_ptr, ↓lkoW_cons, ↓spsW_cons, ↓drW_cons, Nat.reduceSub, ↓drW_nil, ↓z_cat_nil_r, ↓z_so_cons, ↓z_put_none, ↓z_ret, ↓z_end_rt, resLW, res1W, ↓z_agTy_st, ↓z_coeL_cons, ↓z_coeL_nil, ↓z_pack2, D.tup.injEq, List.cons.injEq, and_true, ↓z_coe_int, ↓loadW_ptr, ↓z_rd_t, ↓z_sub_c, ↓z_sub_nil, ↓z_coe_oag, ↓z_coeC_cons, ↓z_coeS_int, ↓z_coeS_nils, ↓z_coeC_nil, true_and, ↓z_coe_str]); (try simp only [Int.toNat_natCast, Nat.mul_one, Bool.or_false, Bool.false_or, Bool.or_self, Bool.or_true])
  intro _
  first | done | kernel_rfl
def spendD (l r : Int) (x : List (List UInt8)) (n : Int) : D :=
  if chk l r x ≠ 0 then .tup [bk0, .int .i64 (chk l r x)] else if n < 0 ∨ (x.length : Int) ≤ n then .tup [bk0, .int .i64 1] else .tup [bk l r (x.set n.toNat []), .int .i64 0]
theorem chk0 {l r : Int} {x : List (List UInt8)} (h : chk l r x = 0) : x.length ≤ 200 := by
  unfold chk at h
  split at h
  · cases h
  · split at h
    · cases h
    · rename_i h2; omega
set_option maxRecDepth 100000 in
set_option maxHeartbeats 8000000 in
theorem fn_Spend (G : Glob) (l r : Int) (x : List (List UInt8)) (n : Int) : Fn G Try.prog 11 [bk l r x, .int .i64 n] (spendD l r x n) := by
  unfold bk
  refine Fn.mk (c := _) Try.func11 rfl rfl Try.ntmps11 Try.results11 ?_
  (simp -dsimp only [bodyW, List.length_cons, List.length_nil, Nat.zero_add, Nat.reduceAdd, Nat.reduceLeDiff, wfL, ↓z_seq, ↓z_region, ↓z_ops_plain, ↓z_box, ↓evW_tmp, ↓z_lk_env, ↓reduceIte, ↓z_cl_agg, ↓z_nmC_cons, ↓z_mn'_int, ↓z_mn'_sl, ↓z_nmC_nil, and_self, ↓z_new, ↓z_nm_nil, Nat.reduceLT, ↓z_pg_env, ↓z_mn_agg, ↓z_mn_int, ↓z_pg_env0, ↓z_put, ↓z_alloc, ↓y_zr24, ↓z_nm_cons, ↓z_pg_cons, ↓z_mn_ptr, reduceCtorEq, ↓z_pg_nil, ↓z_assign, ↓evW_const, ↓constW_int, inR_i64, Int.reduceNeg, Int.reduceLE, ↓z_ops_nil, ↓z_seq_nrm, ↓z_load, ↓lkW_cons, Nat.reduceEqDiff, ↓y_ty24, ↓y_sz24, ↓z_agTy_st, ↓loadW_ptr, ↓lkoW_cons, ↓z_rd_t, ↓z_sub_c, ↓z_sub_nil, ↓z_callv, ↓evW_func, ↓z_evL_cons, ↓z_evL_nil, ↓z_fun0, ↓z_coeL_cons, ↓z_coe_oag, ↓z_coeC_cons, ↓z_coeS_int, ↓z_coeS_sl, ↓z_coeC_nil, ↓z_coeL_nil, true_and])
  intro _ _
  refine call_fnL (fn_Check G l r x) (by trivial) fun _ => ?_
  (simp -dsimp only [↓z_put, Nat.reduceLT, ↓z_ops_plain, ↓z_assign, ↓evW_tmp, ↓lkW_cons, ↓reduceIte, ↓z_ops_nil, ↓z_seq_nrm, ↓z_seq, ↓z_region, ↓z_move, ↓z_binOp, ↓evW_const, ↓constW_int, inR_i64, Int.reduceNeg, Int.reduceLE, and_self, ↓z_bn_neq, ↓z_cond, ↓z_cnd, ↓z_gdt, ne_eq, ↓z_build, ↓y_ty24, ↓z_blTy_st, ↓y_zr24, ↓z_bld_nil, Nat.reduceEqDiff, ↓z_store, ↓y_sz24, ↓z_cl_oag, List.length_cons, List.length_nil, Nat.zero_add, Nat.reduceAdd, ↓z_store_ptr, ↓lkoW_cons, Nat.reduceLeDiff, ↓spsW_cons, ↓drW_cons, reduceCtorEq, Nat.reduceSub, ↓drW_nil, ↓z_cat_nil_r, ↓z_so_cons, ↓z_put_none, ↓z_ret, ↓z_seq_rt, ↓z_end_rt, resLW, res1W, ↓z_agTy_st, ↓z_coeL_cons, ↓z_coeL_nil, ↓z_pack2, ↓z_coe_int, ↓loadW_ptr, ↓z_rd_t, ↓z_sub_c, ↓z_sub_nil, ↓z_coe_oag, ↓z_coeC_cons, ↓z_coeS_int, ↓z_coeS_nils, ↓z_coeC_nil, true_and, ↓z_skip, ↓z_bn_lss, ↓z_ops_guard, ↓z_grd, ↓z_dst_s, ↓z_dst_0, ↓z_grdD_b, ↓z_gdf, ↓z_gnf, ↓z_gft, ↓z_pick, ↓z_pick_b, ↓z_gnt, ↓z_gff, ↓constW_bool, ↓z_gtt, Bool.not_false, ↓z_fieldAddr, ↓y_fl24x2, ↓y_sz22, not_false_eq_true, ↓z_fa_ptr, ↓z_load, ↓y_ty22, ↓z_agTy_sl, ↓z_rd_f, ↓nthW_cons, ↓z_callb, ↓z_evL_cons, ↓z_evL_nil, ↓z_len, ↓z_ln_sl, ↓z_bn_geq, ↓z_callv, ↓evW_func, ↓z_fun0, ↓z_coe_sl, z_ite, Classical.not_not])
  refine ⟨fun h => ⟨by kernel_rfl, by unfold spendD; rw [if_pos h]; rfl⟩, fun h0 => ⟨fun h => ⟨by kernel_rfl, by unfold spendD; rw [if_neg (by omega), if_pos (.inl h)]; rfl⟩, fun h1 => ⟨fun h => ⟨by kernel_rfl, by unfold spendD; rw [if_neg (by omega), if_pos (.inr h)]; rfl⟩, fun h2 => ?_⟩⟩⟩
  have hx := chk0 h0
  refine call_own (fn_Clone G x (by omega)) fun _ => ?_
  (simp -dsimp only [↓z_new, ↓z_nm_cons, ↓z_nmC_cons, ↓z_mn'_int, ↓z_mn'_nils, ↓z_nmC_nil, and_self, ↓z_mn'_sl, ↓z_nm_nil, Nat.zero_add, Nat.reduceAdd, Nat.reduceLT, ↓z_pg_cons, ↓z_mn_sl, ↓z_mn_ptr, reduceCtorEq, ↓reduceIte, ↓z_mn_bool, ↓z_mn_int, ↓z_mn_oag, ↓z_mnL_int, ↓z_mnL_sl, ↓z_mnL_nil, Nat.reduceEqDiff, ↓z_mn_agg, ↓z_pg_nil, ↓z_put, ↓z_ops_plain, ↓z_fieldAddr, ↓evW_tmp, ↓lkW_cons, ↓y_fl24x2, ↓y_sz22, ne_eq, not_false_eq_true, ↓z_fa_ptr, ↓z_store, ↓z_cl_osl, List.length_cons, List.length_nil, ↓z_store_ptr, ↓lkoW_cons, Nat.reduceLeDiff, ↓spsW_cons, Nat.reduceSub, ↓drW_cons, ↓drW_nil, ↓z_cat_nil_r, ↓z_so_cons, ↓z_put_none, ↓z_ops_nil, ↓z_seq_nrm, ↓z_seq, ↓z_region, ↓z_load, ↓y_ty22, ↓z_agTy_sl, ↓loadW_ptr, ↓z_rd_f, ↓nthW_cons, ↓z_move, ↓z_indexAddr, ↓z_elTy_sl, ↓y_sz9, ↓z_ix_osl, ↓evW_const, ↓constW_string, maxLen_lit, ↓z_cl_str, Nat.mul_one, List.length_map, ↓y_ty24, ↓y_sz24, ↓z_agTy_st, ↓z_rd_t, ↓z_sub_c, ↓z_sub_nil, ↓z_cl_oag, ↓z_assign, ↓constW_int, inR_i64, Int.reduceNeg, Int.reduceLE, ↓z_ret, ↓z_end_rt, resLW, res1W, ↓z_coeL_cons, ↓z_coeL_nil, ↓z_pack2, ↓z_coe_int, ↓z_coe_oag, ↓z_coeC_cons, ↓z_coeS_int, ↓z_coeS_osl, ↓z_coeC_nil, true_and, z_sps, ↓z_allP_app, ↓z_allP_cons, ↓z_isP_str, ↓z_allP_nil, and_true, List.length_append, List.length_take, List.length_drop]); (try simp only [Int.toNat_natCast, Nat.mul_one, Bool.or_false, Bool.false_or, Bool.or_self, Bool.or_true])
  refine ⟨by omega, by omega, by omega, ⟨fun d hd => ?_, fun d hd => ?_⟩, by omega, ?_⟩
  · obtain ⟨y, _, rfl⟩ := List.mem_map.1 (List.mem_of_mem_take hd); rfl
  · obtain ⟨y, _, rfl⟩ := List.mem_map.1 (List.mem_of_mem_drop hd); rfl
  · unfold spendD
    rw [if_neg (by omega), if_neg (by omega)]
    unfold bk
    have e := List.set_eq_take_append_cons_drop (l := x) (i := n.toNat) (a := [])
    rw [if_pos (by omega)] at e
    rw [List.length_set, e]
    simp
theorem takeS {α : Type} {l : List α} {i : Nat} (h : i < l.length) : l.take (i + 1) = l.take i ++ [l[i]] := by simp
theorem take1 {α : Type} {l : List α} (h : 0 < l.length) : l.take 1 = [l[0]] := by
  cases l with
  | nil => simp at h
  | cons a l => simp
def spI (l r : Int) (x : List (List UInt8)) (k : Nat) : Nat → St
  | 0 => ⟨38, 3, [(6, .int .i64 0), (5, .ptr 2 0), (4, .ptr 1 0), (2, .ptr 0 0), (1, .int .i64 k)], [(2, [.int .i64 l, .int .i64 r, .nils]), (1, [.int .i64 0, .int .i64 0, .nils]), (0, [.int .i64 l, .int .i64 r, .sl 1 x.length (x.map D.str)])]⟩
  | i + 1 => ⟨38, 4, [(6, .int .i64 (i + 1 : Nat)), (5, .ptr 2 0), (4, .ptr 1 0), (2, .ptr 0 0), (1, .int .i64 k)], [(3, ((x.set k []).take (i + 1)).map D.str), (2, [.int .i64 l, .int .i64 r, .osl 3 1 (i + 1)]), (1, [.int .i64 0, .int .i64 0, .nils]), (0, [.int .i64 l, .int .i64 r, .sl 1 x.length (x.map D.str)])]⟩
theorem spI0 (l r : Int) (x : List (List UInt8)) (k : Nat) : spI l r x k 0 = ⟨38, 3, [(6, .int .i64 0), (5, .ptr 2 0), (4, .ptr 1 0), (2, .ptr 0 0), (1, .int .i64 k)], [(2, [.int .i64 l, .int .i64 r, .nils]), (1, [.int .i64 0, .int .i64 0, .nils]), (0, [.int .i64 l, .int .i64 r, .sl 1 x.length (x.map D.str)])]⟩ := rfl
theorem spIs (l r : Int) (x : List (List UInt8)) (k i : Nat) : spI l r x k (i + 1) = ⟨38, 4, [(6, .int .i64 (i + 1 : Nat)), (5, .ptr 2 0), (4, .ptr 1 0), (2, .ptr 0 0), (1, .int .i64 k)], [(3, ((x.set k []).take (i + 1)).map D.str), (2, [.int .i64 l, .int .i64 r, .osl 3 1 (i + 1)]), (1, [.int .i64 0, .int .i64 0, .nils]), (0, [.int .i64 l, .int .i64 r, .sl 1 x.length (x.map D.str)])]⟩ := rfl
set_option maxRecDepth 100000 in
set_option maxHeartbeats 8000000 in
theorem fn_spent (G : Glob) (l r : Int) (x : List (List UInt8)) (k : Nat) (hk : k < x.length) (hx : x.length ≤ 1000000) : Fn G Try.prog 25 [bk l r x, .int .i64 k] (bk l r (x.set k [])) := by
  unfold bk
  refine Fn.mk (c := _) Try.func25 rfl rfl Try.ntmps25 Try.results25 ?_
  (simp -dsimp only [bodyW, List.length_cons, List.length_nil, Nat.zero_add, Nat.reduceAdd, Nat.reduceLeDiff, wfL, ↓z_seq, ↓z_region, ↓z_ops_plain, ↓z_box, ↓evW_tmp, ↓z_lk_env, ↓reduceIte, ↓z_cl_agg, ↓z_nmC_cons, ↓z_mn'_int, ↓z_mn'_sl, ↓z_nmC_nil, and_self, ↓z_new, ↓z_nm_nil, Nat.reduceLT, ↓z_pg_env, ↓z_mn_agg, ↓z_mn_int, ↓z_pg_env0, ↓z_put, ↓z_alloc, ↓y_zr24, ↓z_nm_cons, ↓z_pg_cons, ↓z_mn_ptr, reduceCtorEq, ↓z_pg_nil, ↓z_ops_nil, ↓z_seq_nrm, ↓z_fieldAddr, ↓lkW_cons, Nat.reduceEqDiff, ↓y_fl24x0, ↓y_sz3, ne_eq, not_false_eq_true, ↓z_fa_ptr, ↓z_load, ↓y_ty3, ↓z_agTy_int, ↓loadW_ptr, ↓lkoW_cons, ↓z_rd_f, ↓nthW_cons, ↓y_fl24x1, Nat.reduceSub, ↓z_build, ↓y_ty24, ↓z_blTy_st, ↓z_bld_cons, ↓z_cl_int, ↓spsW_cons, ↓drW_cons, ↓catW_cons, ↓catW_nil, ↓z_bld_nil, ↓z_mn'_nils, ↓z_mn_oag, ↓z_mnL_int, ↓z_mnL_nils, ↓z_mnL_nil, ↓z_store, ↓y_sz24, ↓z_cl_oag, ↓z_store_ptr, ↓drW_nil, ↓z_cat_nil_r, ↓z_so_cons, ↓z_put_none, ↓z_assign, ↓evW_const, ↓constW_int, inR_i64, Int.reduceNeg, Int.reduceLE, ↓z_block, ↓z_loop, true_and])
  intro _ _
  refine ⟨by kernel_rfl, hold_intro ⟨[], Nat, spI l r x k, fun i => i ≤ x.length, fun i => x.length - i, ?_, ?_⟩⟩
  · refine ⟨0, by omega, ?_⟩
    rw [spI0]
    (simp -dsimp only [↓z_wk, ↓z_wkE_cons, ↓lkW_cons, ↓reduceIte, Nat.reduceEqDiff, Nat.zero_add, Nat.reduceAdd, reduceCtorEq, ↓z_wkE_nil, and_self, ↓z_wkO_cons, ↓lkoW_cons, ↓z_wkO_nil]); (try simp only [Int.toNat_natCast, Nat.mul_one, Bool.or_false, Bool.false_or, Bool.or_self, Bool.or_true])
  · rintro i hi
    cases i with
    | zero =>
      rw [spI0]
      (simp -dsimp only [↓z_seq, ↓z_region, ↓z_ops_plain, ↓z_move, ↓evW_tmp, ↓lkW_cons, ↓reduceIte, ↓z_put, Nat.reduceLT, ↓z_fieldAddr, Nat.reduceEqDiff, ↓y_fl24x2, ↓y_sz22, ne_eq, reduceCtorEq, not_false_eq_true, ↓z_fa_ptr, ↓z_load, ↓y_ty22, ↓z_agTy_sl, ↓loadW_ptr, ↓lkoW_cons, ↓z_rd_f, ↓nthW_cons, Nat.zero_add, Nat.reduceSub, ↓z_callb, ↓z_evL_cons, ↓z_evL_nil, ↓z_len, ↓z_ln_sl, ↓z_binOp, ↓z_bn_lss, ↓z_ops_nil, ↓z_seq_nrm, ↓z_cond, ↓z_cnd, ↓z_gdt, ↓z_skip, ↓z_block, ↓z_bn_eql, ↓z_buildSlice, ↓z_slTy, ↓y_sz9, Nat.mul_one, Nat.reduceLeDiff, maxLen_lit, ↓y_zr9, List.length_cons, List.length_nil, ↓z_repL_s, ↓z_repL_0, ↓z_cat_nil_r, ↓z_bld_cons, ↓evW_const, ↓constW_string, ↓z_cl_str, ↓spsW_cons, ↓drW_cons, ↓drW_nil, ↓z_bld_nil, ↓z_allP_cons, ↓z_isP_str, ↓z_allP_nil, and_self, ↓z_append, ↓z_nint_sl, ↓y_by9, ↓z_src_slx, ↓z_app_nils, ↓z_room, Nat.reduceMul, ↓z_new, ↓z_nm_cons, ↓z_nmC_cons, ↓z_mn'_int, ↓z_mn'_nils, ↓z_nmC_nil, ↓z_mn'_sl, ↓z_nm_nil, ↓z_pg_cons, ↓z_mn_slx, ↓z_mn_nils, ↓z_mn_ptr, ↓z_mn_bool, ↓z_mn_int, ↓z_mn_sl, ↓z_pg_nil, ↓z_store, ↓z_cl_osl, ↓z_store_ptr, Nat.reduceAdd, ↓z_so_cons, ↓z_put_none, ↓z_blk_nrm, ↓constW_int, inR_i64, Int.reduceNeg, Int.reduceLE, ↓z_bn_add, ↓wrW_i64, ↓z_assign, ↓z_lp_nrm, true_and, ↓z_region_d, ↓y_mix, z_ite, ↓z_exit, ↓z_seq_ext, ↓z_lp_ext, ↓z_blk_ext, ↓y_ty24, ↓y_sz24, ↓z_agTy_st, ↓z_rd_t, ↓z_sub_c, ↓z_sub_nil, ↓z_cl_oag, ↓z_ret, ↓z_end_rt, resLW, res1W, ↓z_coeL_cons, ↓z_coeL_nil, ↓z_pack1, ↓z_coe_oag, ↓z_coeC_cons, ↓z_coeS_int, ↓z_coeS_nils, ↓z_coeC_nil, D.agg.injEq, List.cons.injEq, and_true])
      refine ⟨fun h => ⟨fun hk => ⟨by omega, 1, by omega, by omega, ?_⟩, fun hk => rgn_d (by decide +kernel) ?_⟩, fun h => by omega⟩
      · rw [spIs]
        (simp -dsimp only [↓z_wk, ↓z_wkE_cons, ↓lkW_cons, ↓reduceIte, Nat.zero_add, D.int.injEq, true_and, Nat.reduceEqDiff, ↓z_wkE_nil, and_self, and_true, ↓z_wkO_cons, ↓lkoW_cons, reduceCtorEq, ↓z_wkO_nil]); (try simp only [Int.toNat_natCast, Nat.mul_one, Bool.or_false, Bool.false_or, Bool.or_self, Bool.or_true])
        refine ⟨by omega, ?_⟩
        obtain rfl : k = 0 := by omega
        cases x with
        | nil => simp at h
        | cons y x => simp
      · (simp -dsimp only [↓z_drw_fieldAddr, ↓z_drwS, ↓z_grd_none, ↓z_withE, ↓z_rd_tmp, ↓lkW_cons, Nat.reduceEqDiff, ↓reduceIte, ↓z_rd_nil, ↓z_ap_cons, ↓z_ap_nil, ↓z_fieldAddr, ↓evW_tmp, ↓y_fl24x2, ↓y_sz22, ne_eq, reduceCtorEq, not_false_eq_true, ↓z_fa_ptr, Nat.zero_add, and_true, true_and, ↓z_exD_all, ↓z_exD_eq, ↓z_put, Nat.reduceLT, ↓z_drwK, ↓z_drw_load, ↓z_load, ↓y_ty22, ↓z_agTy_sl, ↓loadW_ptr, ↓lkoW_cons, ↓z_rd_f, ↓nthW_cons, Nat.reduceSub, ↓z_drw_move, ↓z_move, ↓z_drw_indexAddr, ↓z_indexAddr, ↓z_elTy_sl, ↓y_sz9, ↓z_ix_sl, Int.reduceLE, Int.reduceToNat, Nat.mul_one, ↓z_exD_and, ↓y_ty9, ↓z_agTy_str, ↓loadW_rop, ↓z_nth_str, ↓z_exD_ex, ↓z_drw_buildSlice, ↓z_mpO_cons, ↓z_mpO_nil, ↓z_ap_app, ↓z_buildSlice, ↓z_slTy, Nat.reduceLeDiff, maxLen_lit, ↓y_zr9, List.length_cons, List.length_nil, ↓z_repL_s, ↓z_repL_0, ↓z_cat_nil_r, ↓z_bld_cons, ↓z_cl_str, ↓spsW_cons, ↓drW_cons, ↓drW_nil, ↓z_bld_nil, ↓z_allP_cons, ↓z_isP_str, ↓z_allP_nil, and_self, ↓z_drw_append, ↓z_ops_plain, ↓z_callb, ↓z_evL_cons, ↓z_evL_nil, ↓z_append, ↓z_nint_sl, ↓y_by9, ↓z_src_slx, ↓z_app_nils, ↓z_room, Nat.reduceMul, ↓z_new, ↓z_nm_cons, ↓z_nmC_cons, ↓z_mn'_int, ↓z_mn'_nils, ↓z_nmC_nil, ↓z_mn'_sl, ↓z_nm_nil, ↓z_pg_cons, ↓z_mn_slx, ↓z_mn_str, ↓z_mn_rop, ↓z_mn_int, ↓z_mn_sl, ↓z_mn_ptr, ↓z_mn_nils, ↓z_mn_bool, ↓z_pg_nil, ↓z_store, ↓z_cl_osl, ↓z_store_ptr, Nat.reduceAdd, ↓z_so_cons, ↓z_put_none, ↓z_ops_nil, ↓z_blk_nrm, ↓z_seq_nrm, ↓z_region, ↓z_binOp, ↓evW_const, ↓constW_int, inR_i64, Int.reduceNeg, ↓z_bn_add, ↓wrW_i64, ↓z_assign, ↓z_lp_nrm]); (try simp only [Int.toNat_natCast, Nat.mul_one, Bool.or_false, Bool.false_or, Bool.or_self, Bool.or_true])
        refine ⟨by omega, by omega, by omega, 1, by omega, by omega, ?_⟩
        rw [spIs]
        (simp -dsimp only [↓z_wk, ↓z_wkE_cons, ↓lkW_cons, ↓reduceIte, Nat.zero_add, D.int.injEq, true_and, Nat.reduceEqDiff, ↓z_wkE_nil, and_self, and_true, ↓z_wkO_cons, ↓lkoW_cons, reduceCtorEq, ↓z_wkO_nil]); (try simp only [Int.toNat_natCast, Nat.mul_one, Bool.or_false, Bool.false_or, Bool.or_self, Bool.or_true])
        refine ⟨by omega, ?_⟩
        have e : 0 < (x.set k []).length := by simp; omega
        rw [take1 e, List.getElem_set_ne (by omega)]; rfl
    | succ i =>
      rw [spIs]
      (simp -dsimp only [↓z_seq, ↓z_region, ↓z_ops_plain, ↓z_move, ↓evW_tmp, ↓lkW_cons, ↓reduceIte, ↓z_put, Nat.reduceLT, ↓z_fieldAddr, Nat.reduceEqDiff, ↓y_fl24x2, ↓y_sz22, ne_eq, reduceCtorEq, not_false_eq_true, ↓z_fa_ptr, ↓z_load, ↓y_ty22, ↓z_agTy_sl, ↓loadW_ptr, ↓lkoW_cons, ↓z_rd_f, ↓nthW_cons, Nat.zero_add, Nat.reduceSub, ↓z_callb, ↓z_evL_cons, ↓z_evL_nil, ↓z_len, ↓z_ln_sl, ↓z_binOp, ↓z_bn_lss, ↓z_ops_nil, ↓z_seq_nrm, ↓z_cond, ↓z_cnd, ↓z_gdt, ↓z_skip, ↓z_block, ↓z_bn_eql, ↓z_buildSlice, ↓z_slTy, ↓y_sz9, Nat.mul_one, Nat.reduceLeDiff, maxLen_lit, ↓y_zr9, List.length_cons, List.length_nil, ↓z_repL_s, ↓z_repL_0, ↓z_cat_nil_r, ↓z_bld_cons, ↓evW_const, ↓constW_string, ↓z_cl_str, ↓spsW_cons, ↓drW_cons, ↓drW_nil, ↓z_bld_nil, ↓z_allP_cons, ↓z_isP_str, ↓z_allP_nil, and_self, ↓z_append, ↓z_nint_sl, ↓y_by9, ↓z_src_slx, ↓z_app_osl, List.length_map, List.length_take, ↓z_nmC_str, ↓z_room, ↓z_pgo_cons, ↓z_pgc_nm, ↓z_pgc_cons, ↓z_mn_int, ↓z_mn_osl, ↓z_nmC_nil, ↓z_nmC_cons, ↓z_mn'_int, ↓z_mn'_nils, ↓z_mn'_sl, ↓z_pgo_nil, ↓z_pg_cons, ↓z_mn_slx, ↓z_mn_ptr, ↓z_mn_bool, ↓z_mn_sl, ↓z_pg_nil, ↓z_so_cons, ↓z_store, ↓z_cl_osl, ↓z_store_ptr, Nat.reduceAdd, ↓z_put_none, ↓z_blk_nrm, ↓constW_int, inR_i64, Int.reduceNeg, Int.reduceLE, ↓z_bn_add, ↓wrW_i64, ↓z_assign, ↓z_lp_nrm, true_and, ↓z_region_d, ↓y_mix, z_ite, ↓z_exit, ↓z_seq_ext, ↓z_lp_ext, ↓z_blk_ext, ↓y_ty24, ↓y_sz24, ↓z_agTy_st, ↓z_rd_t, ↓z_sub_c, ↓z_sub_nil, ↓z_cl_oag, ↓z_ret, ↓z_end_rt, resLW, res1W, ↓z_coeL_cons, ↓z_coeL_nil, ↓z_pack1, ↓z_coe_oag, ↓z_coeC_cons, ↓z_coeS_int, ↓z_coeS_osl, ↓z_allP_str, ↓z_coeC_nil, D.agg.injEq, List.cons.injEq, D.sl.injEq, and_true])
      have hl : (x.set k []).length = x.length := by simp
      refine ⟨fun h => ⟨fun hk => ⟨by omega, by omega, by omega, by omega, i + 2, by omega, by omega, ?_⟩, fun hk => rgn_d (by decide +kernel) ?_⟩, fun h => ?_⟩
      · rw [spIs]
        (simp -dsimp only [↓z_wk, ↓z_wkE_cons, ↓lkW_cons, ↓reduceIte, D.int.injEq, true_and, Nat.reduceEqDiff, ↓z_wkE_nil, and_self, and_true, ↓z_wkO_cons, ↓lkoW_cons, reduceCtorEq, ↓z_wkO_nil]); (try simp only [Int.toNat_natCast, Nat.mul_one, Bool.or_false, Bool.false_or, Bool.or_self, Bool.or_true])
        obtain rfl : i + 1 = k := by omega
        refine ⟨by omega, ?_⟩
        rw [takeS (l := x.set (i + 1) []) (i := i + 1) (by simp; omega), List.getElem_set_self]; simp
      · (simp -dsimp only [↓z_drw_fieldAddr, ↓z_drwS, ↓z_grd_none, ↓z_withE, ↓z_rd_tmp, ↓lkW_cons, Nat.reduceEqDiff, ↓reduceIte, ↓z_rd_nil, ↓z_ap_cons, ↓z_ap_nil, ↓z_fieldAddr, ↓evW_tmp, ↓y_fl24x2, ↓y_sz22, ne_eq, reduceCtorEq, not_false_eq_true, ↓z_fa_ptr, Nat.zero_add, and_true, true_and, ↓z_exD_all, ↓z_exD_eq, ↓z_put, Nat.reduceLT, ↓z_drwK, ↓z_drw_load, ↓z_load, ↓y_ty22, ↓z_agTy_sl, ↓loadW_ptr, ↓lkoW_cons, ↓z_rd_f, ↓nthW_cons, Nat.reduceSub, ↓z_drw_move, ↓z_move, ↓z_drw_indexAddr, ↓z_indexAddr, ↓z_elTy_sl, ↓y_sz9, ↓z_ix_sl, Nat.mul_one, ↓z_exD_and, ↓y_ty9, ↓z_agTy_str, ↓loadW_rop, ↓z_nth_str, ↓z_exD_ex, ↓z_drw_buildSlice, ↓z_mpO_cons, ↓z_mpO_nil, ↓z_ap_app, ↓z_buildSlice, ↓z_slTy, Nat.reduceLeDiff, maxLen_lit, ↓y_zr9, List.length_cons, List.length_nil, ↓z_repL_s, ↓z_repL_0, ↓z_cat_nil_r, ↓z_bld_cons, ↓z_cl_str, ↓spsW_cons, ↓drW_cons, ↓drW_nil, ↓z_bld_nil, ↓z_allP_cons, ↓z_isP_str, ↓z_allP_nil, and_self, ↓z_drw_append, ↓z_ops_plain, ↓z_callb, ↓z_evL_cons, ↓z_evL_nil, ↓z_append, ↓z_nint_sl, ↓y_by9, ↓z_src_slx, ↓z_app_osl, List.length_map, List.length_take, ↓z_nmC_str, ↓z_room, ↓z_pgo_cons, ↓z_pgc_nm, ↓z_pgc_cons, ↓z_mn_int, ↓z_mn_osl, ↓z_nmC_nil, ↓z_nmC_cons, ↓z_mn'_int, ↓z_mn'_nils, ↓z_mn'_sl, ↓z_pgo_nil, ↓z_pg_cons, ↓z_mn_slx, ↓z_mn_str, ↓z_mn_rop, ↓z_mn_sl, ↓z_mn_ptr, ↓z_mn_bool, ↓z_pg_nil, ↓z_so_cons, ↓z_store, ↓z_cl_osl, ↓z_store_ptr, Nat.reduceAdd, ↓z_put_none, ↓z_ops_nil, ↓z_blk_nrm, ↓z_seq_nrm, ↓z_region, ↓z_binOp, ↓evW_const, ↓constW_int, inR_i64, Int.reduceNeg, Int.reduceLE, ↓z_bn_add, ↓wrW_i64, ↓z_assign, ↓z_lp_nrm]); (try simp only [Int.toNat_natCast])
        refine ⟨by omega, h, by omega, by omega, by omega, by omega, by omega, i + 2, by omega, by omega, ?_⟩
        rw [spIs]
        (simp -dsimp only [↓z_wk, ↓z_wkE_cons, ↓lkW_cons, ↓reduceIte, D.int.injEq, true_and, Nat.reduceEqDiff, ↓z_wkE_nil, and_self, and_true, ↓z_wkO_cons, ↓lkoW_cons, reduceCtorEq, ↓z_wkO_nil]); (try simp only [Int.toNat_natCast, Nat.mul_one, Bool.or_false, Bool.false_or, Bool.or_self, Bool.or_true])
        refine ⟨by omega, ?_⟩
        rw [takeS (l := x.set k []) (i := i + 1) (by simp; omega), List.getElem_set_ne (by omega)]; simp
      · refine ⟨by omega, by omega, ?_⟩
        rw [List.take_of_length_le (by omega)]
#print axioms fn_spent
end Go.Abs

