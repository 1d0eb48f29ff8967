/-
  CLOCK, first walks: least and greatest numbers; instants; how much time can have passed.
-/
import Derived.Test.YtdjfnipabekkaaaTy
namespace Go.Abs
open Go.Proofs

def minK (xs : List Int) (i : Nat) : Int := (xs.take i).foldl min (xs.getD 0 0)
def maxK (xs : List Int) (i : Nat) : Int := (xs.take i).foldl max (xs.getD 0 0)
def minL (xs : List Int) : Int := minK xs xs.length
def maxL (xs : List Int) : Int := maxK xs xs.length
theorem minK_1 {xs : List Int} (h : 0 < xs.length) : xs[0] = minK xs 1 := by
  cases xs with
  | nil => simp at h
  | cons x r => simp [minK]
theorem maxK_1 {xs : List Int} (h : 0 < xs.length) : xs[0] = maxK xs 1 := by
  cases xs with
  | nil => simp at h
  | cons x r => simp [maxK]
theorem minK_s {xs : List Int} {i : Nat} (h : i < xs.length) : minK xs (i + 1) = min (minK xs i) xs[i] := by
  unfold minK
  rw [show xs.take (i + 1) = xs.take i ++ [xs[i]] by simp, List.foldl_append]; rfl
theorem maxK_s {xs : List Int} {i : Nat} (h : i < xs.length) : maxK xs (i + 1) = max (maxK xs i) xs[i] := by
  unfold maxK
  rw [show xs.take (i + 1) = xs.take i ++ [xs[i]] by simp, List.foldl_append]; rfl
theorem minL_one (a : Int) : minL [a] = a := by simp [minL, minK]
theorem maxL_one (a : Int) : maxL [a] = a := by simp [maxL, maxK]
theorem minL_two (a b : Int) : minL [a, b] = min a b := by simp [minL, minK]
theorem maxL_two (a b : Int) : maxL [a, b] = max a b := by simp [maxL, maxK]

set_option maxRecDepth 100000 in
set_option maxHeartbeats 8000000 in
theorem fn_Min (G : Glob) (xs : List Int) (h0 : 0 < xs.length) : Fn G Try.prog 47 [.sl 1 xs.length (xs.map (D.int .i64))] (.int .i64 (minL xs)) := by
  refine Fn.mk (c := _) Try.func47 rfl rfl Try.ntmps47 Try.results47 ?_
  (simp -dsimp only [bodyW, List.length_cons, List.length_nil, Nat.zero_add, Nat.reduceLeDiff, wfL, ↓z_seq, ↓z_region, ↓z_ops_plain, ↓z_assign, ↓evW_const, ↓constW_int, inR_i64, Int.reduceNeg, Int.reduceLE, and_self, ↓z_put, Nat.reduceLT, ↓z_ops_nil, ↓z_seq_nrm, ↓z_move, ↓evW_tmp, ↓lkW_cons, reduceCtorEq, ↓reduceIte, ↓z_lk_env, ↓z_callb, ↓z_evL_cons, ↓z_evL_nil, ↓z_len, ↓y_ty99, ↓z_ln_sl, ↓z_binOp, ↓z_bn_lss, ↓z_cond, ↓z_cnd, ↓z_gdt, ↓z_envF_cons, ↓z_envF_nil, ↓z_put_none, ↓z_indexAddr, ↓z_elTy_sl, ↓y_sz3, ↓z_load, ↓y_ty3, ↓z_agTy_int, ↓z_block, ↓z_loop, true_and, ↓z_skip, ↓z_ix_sl, ↓loadW_rop, ↓z_rd_f, ↓z_nth_int, Int.reduceToNat, Nat.mul_one, z_ite])
  intro hx
  have hx' : xs.length ≤ 9223372036854775807 := hx.1.1
  refine ⟨fun h => by omega, fun _ => ⟨by omega, h0, ?_⟩⟩
  refine hold_intro ⟨[], Nat, fun i => ⟨25, 0, [(4, .int .i64 (i + 1 : Nat)), (3, .int .i64 (minK xs (i + 1))), (0, .sl 1 xs.length (xs.map (D.int .i64)))], []⟩, fun i => i < xs.length, fun i => xs.length - i, ?_, ?_⟩
  · (simp -dsimp only [↓z_ad_nil, ↓z_wk, ↓z_wkE_cons, ↓lkW_cons, ↓reduceIte, D.int.injEq, true_and, Nat.reduceEqDiff, Int.reduceToNat, Nat.mul_one, reduceCtorEq, ↓z_lk_env, ↓z_wkE_nil, and_self, and_true, ↓z_wkO_nil]); (try simp only [Int.toNat_natCast, Nat.mul_one, Bool.or_false, Bool.false_or, Bool.or_self, Bool.or_true])
    exact ⟨0, h0, rfl, minK_1 h0⟩
  rintro i hi
  (simp -dsimp only [↓z_seq, ↓z_region, ↓z_ops_plain, ↓z_move, ↓evW_tmp, ↓lkW_cons, ↓reduceIte, ↓z_put, Nat.reduceLT, reduceCtorEq, ↓z_callb, ↓z_evL_cons, ↓z_evL_nil, ↓z_len, ↓y_ty99, ↓z_ln_sl, ↓z_binOp, Nat.reduceEqDiff, ↓z_bn_lss, ↓z_ops_nil, ↓z_seq_nrm, ↓z_cond, ↓z_cnd, ↓z_gdt, ↓z_skip, ↓z_block, ↓z_indexAddr, ↓z_elTy_sl, ↓y_sz3, ↓z_ix_sl, ↓z_load, ↓y_ty3, ↓z_agTy_int, ↓loadW_rop, ↓z_rd_f, ↓z_nth_int, ↓z_min, ↓z_mx_min, ↓z_mx_nil, ↓z_assign, ↓z_blk_nrm, ↓evW_const, ↓constW_int, inR_i64, Int.reduceNeg, Int.reduceLE, and_self, ↓z_bn_add, ↓wrW_i64, ↓z_lp_nrm, ↓z_wk, ↓z_wkE_cons, D.int.injEq, true_and, Nat.mul_one, ↓z_wkE_nil, and_true, ↓z_wkO_nil, ↓z_exit, ↓z_seq_ext, ↓z_lp_ext, ↓z_blk_ext, ↓z_ret, ↓z_end_rt, resLW, res1W, ↓z_coeL_cons, ↓z_coeL_nil, ↓z_pack1, ↓z_coe_int, z_ite]); (try simp only [Int.toNat_natCast])
  refine ⟨fun h => ?_, fun h => ?_⟩
  · have hi1 : i + 1 < xs.length := by omega
    refine ⟨by omega, by omega, by omega, ⟨by omega, by omega⟩, i + 1, by omega, by omega, by omega, ?_⟩
    rw [minK_s hi1]
  · unfold minL
    rw [show i + 1 = xs.length by omega]
set_option maxRecDepth 100000 in
set_option maxHeartbeats 8000000 in
theorem fn_Max (G : Glob) (xs : List Int) (h0 : 0 < xs.length) : Fn G Try.prog 48 [.sl 1 xs.length (xs.map (D.int .i64))] (.int .i64 (maxL xs)) := by
  refine Fn.mk (c := _) Try.func48 rfl rfl Try.ntmps48 Try.results48 ?_
  (simp -dsimp only [bodyW, List.length_cons, List.length_nil, Nat.zero_add, Nat.reduceLeDiff, wfL, ↓z_seq, ↓z_region, ↓z_ops_plain, ↓z_assign, ↓evW_const, ↓constW_int, inR_i64, Int.reduceNeg, Int.reduceLE, and_self, ↓z_put, Nat.reduceLT, ↓z_ops_nil, ↓z_seq_nrm, ↓z_move, ↓evW_tmp, ↓lkW_cons, reduceCtorEq, ↓reduceIte, ↓z_lk_env, ↓z_callb, ↓z_evL_cons, ↓z_evL_nil, ↓z_len, ↓y_ty99, ↓z_ln_sl, ↓z_binOp, ↓z_bn_lss, ↓z_cond, ↓z_cnd, ↓z_gdt, ↓z_envF_cons, ↓z_envF_nil, ↓z_put_none, ↓z_indexAddr, ↓z_elTy_sl, ↓y_sz3, ↓z_load, ↓y_ty3, ↓z_agTy_int, ↓z_block, ↓z_loop, true_and, ↓z_skip, ↓z_ix_sl, ↓loadW_rop, ↓z_rd_f, ↓z_nth_int, Int.reduceToNat, Nat.mul_one, z_ite])
  intro hx
  have hx' : xs.length ≤ 9223372036854775807 := hx.1.1
  refine ⟨fun h => by omega, fun _ => ⟨by omega, h0, ?_⟩⟩
  refine hold_intro ⟨[], Nat, fun i => ⟨25, 0, [(4, .int .i64 (i + 1 : Nat)), (3, .int .i64 (maxK xs (i + 1))), (0, .sl 1 xs.length (xs.map (D.int .i64)))], []⟩, fun i => i < xs.length, fun i => xs.length - i, ?_, ?_⟩
  · (simp -dsimp only [↓z_ad_nil, ↓z_wk, ↓z_wkE_cons, ↓lkW_cons, ↓reduceIte, D.int.injEq, true_and, Nat.reduceEqDiff, Int.reduceToNat, Nat.mul_one, reduceCtorEq, ↓z_lk_env, ↓z_wkE_nil, and_self, and_true, ↓z_wkO_nil]); (try simp only [Int.toNat_natCast, Nat.mul_one, Bool.or_false, Bool.false_or, Bool.or_self, Bool.or_true])
    exact ⟨0, h0, rfl, maxK_1 h0⟩
  rintro i hi
  (simp -dsimp only [↓z_seq, ↓z_region, ↓z_ops_plain, ↓z_move, ↓evW_tmp, ↓lkW_cons, ↓reduceIte, ↓z_put, Nat.reduceLT, reduceCtorEq, ↓z_callb, ↓z_evL_cons, ↓z_evL_nil, ↓z_len, ↓y_ty99, ↓z_ln_sl, ↓z_binOp, Nat.reduceEqDiff, ↓z_bn_lss, ↓z_ops_nil, ↓z_seq_nrm, ↓z_cond, ↓z_cnd, ↓z_gdt, ↓z_skip, ↓z_block, ↓z_indexAddr, ↓z_elTy_sl, ↓y_sz3, ↓z_ix_sl, ↓z_load, ↓y_ty3, ↓z_agTy_int, ↓loadW_rop, ↓z_rd_f, ↓z_nth_int, ↓z_max, ↓z_mx_max, ↓z_mx_nil, ↓z_assign, ↓z_blk_nrm, ↓evW_const, ↓constW_int, inR_i64, Int.reduceNeg, Int.reduceLE, and_self, ↓z_bn_add, ↓wrW_i64, ↓z_lp_nrm, ↓z_wk, ↓z_wkE_cons, D.int.injEq, true_and, Nat.mul_one, ↓z_wkE_nil, and_true, ↓z_wkO_nil, ↓z_exit, ↓z_seq_ext, ↓z_lp_ext, ↓z_blk_ext, ↓z_ret, ↓z_end_rt, resLW, res1W, ↓z_coeL_cons, ↓z_coeL_nil, ↓z_pack1, ↓z_coe_int, z_ite]); (try simp only [Int.toNat_natCast])
  refine ⟨fun h => ?_, fun h => ?_⟩
  · have hi1 : i + 1 < xs.length := by omega
    refine ⟨by omega, by omega, by omega, ⟨by omega, by omega⟩, i + 1, by omega, by omega, by omega, ?_⟩
    rw [maxK_s hi1]
  · unfold maxL
    rw [show i + 1 = xs.length by omega]
/-- An instant. -/
abbrev instP (a : Int) : Prop := 0 ≤ a ∧ a ≤ 3600000000
set_option maxRecDepth 100000 in
set_option maxHeartbeats 8000000 in
theorem fn_instants1 (G : Glob) (a : Int) : Fn G Try.prog 35 [.slx 1 1 [.int .i64 a]] (.bool (decide (instP a))) := by
  refine Fn.mk (c := _) Try.func35 rfl rfl Try.ntmps35 Try.results35 ?_
  (simp -dsimp only [bodyW, List.length_cons, List.length_nil, Nat.zero_add, Nat.reduceLeDiff, wfL, ↓z_seq, ↓z_region, ↓z_ops_plain, ↓z_assign, ↓evW_const, ↓constW_bool, ↓z_put, Nat.reduceLT, ↓z_ops_nil, ↓z_seq_nrm, ↓z_move, ↓evW_tmp, ↓lkW_cons, reduceCtorEq, ↓reduceIte, ↓z_lk_env, ↓z_callv, ↓evW_func, ↓z_evL_cons, ↓z_evL_nil, ↓z_fun0, ↓z_coeL_cons, ↓z_coe_slx, ↓z_coeL_nil, true_and])
  intro _
  refine call_fn ((fn_Min G [a] (by simp)).weak (.cons (.slx ..) .nil)) fun _ => ?_
  rw [minL_one]
  (simp -dsimp only [↓z_put, Nat.reduceLT, ↓z_ops_plain, ↓z_binOp, ↓evW_tmp, ↓lkW_cons, ↓reduceIte, ↓evW_const, ↓constW_int, inR_i64, Int.reduceNeg, Int.reduceLE, and_self, ↓z_bn_geq, ↓z_move, ↓z_ops_guard, ↓z_grd, ↓z_dst_s, ↓z_dst_0, ↓z_grdD_b, ↓z_gdt, reduceCtorEq, ↓z_lk_env, Nat.reduceEqDiff, ↓z_gtt, ↓z_callv, ↓evW_func, ↓z_evL_cons, ↓z_evL_nil, ↓z_fun0, ↓z_coeL_cons, ↓z_coe_slx, ↓z_coeL_nil, true_and, ↓z_gnt, ↓z_gtf, ↓z_pick, ↓z_pick_b, ↓constW_bool, ↓z_assign, ↓z_ops_nil, ↓z_seq_nrm, ↓z_ret, ↓z_end_rt, resLW, res1W, Bool.not_true, ↓z_envF_cons, ↓z_envF_nil, ↓z_pack1, ↓z_coe_bool, D.bool.injEq, z_ite])
  refine ⟨fun h => call_fn ((fn_Max G [a] (by simp)).weak (.cons (.slx ..) .nil)) fun _ => ?_, fun h => ?_⟩
  · rw [maxL_one]
    (simp -dsimp only [↓z_put, Nat.reduceLT, ↓z_ops_guard, ↓z_grd, ↓z_dst_s, ↓z_dst_0, ↓lkW_cons, Nat.reduceEqDiff, ↓reduceIte, ↓z_grdD_b, ↓z_gtt, ↓z_binOp, ↓evW_tmp, ↓evW_const, ↓constW_int, inR_i64, Int.reduceNeg, Int.reduceLE, and_self, ↓z_bn_leq, ↓z_ops_plain, ↓z_pick, ↓z_pick_b, ↓z_assign, ↓z_ops_nil, ↓z_seq_nrm, ↓z_ret, ↓z_end_rt, resLW, res1W, ↓z_envF_cons, ↓z_envF_nil, ↓z_coeL_cons, ↓z_coeL_nil, ↓z_pack1, ↓z_coe_bool, D.bool.injEq, true_and]); (try simp only [Int.toNat_natCast, Nat.mul_one, Bool.or_false, Bool.false_or, Bool.or_self, Bool.or_true])
    exact decide_eq_decide.2 ⟨fun h2 => ⟨h, h2⟩, fun h2 => h2.2⟩
  · exact (decide_eq_false fun h2 => h h2.1).symm
set_option maxRecDepth 100000 in
set_option maxHeartbeats 8000000 in
theorem fn_instants2 (G : Glob) (a b : Int) : Fn G Try.prog 35 [.slx 1 2 [.int .i64 a, .int .i64 b]] (.bool (decide (instP a ∧ instP b))) := by
  refine Fn.mk (c := _) Try.func35 rfl rfl Try.ntmps35 Try.results35 ?_
  (simp -dsimp only [bodyW, List.length_cons, List.length_nil, Nat.zero_add, Nat.reduceLeDiff, wfL, ↓z_seq, ↓z_region, ↓z_ops_plain, ↓z_assign, ↓evW_const, ↓constW_bool, ↓z_put, Nat.reduceLT, ↓z_ops_nil, ↓z_seq_nrm, ↓z_move, ↓evW_tmp, ↓lkW_cons, reduceCtorEq, ↓reduceIte, ↓z_lk_env, ↓z_callv, ↓evW_func, ↓z_evL_cons, ↓z_evL_nil, ↓z_fun0, ↓z_coeL_cons, ↓z_coe_slx, ↓z_coeL_nil, true_and])
  intro _
  refine call_fn ((fn_Min G [a, b] (by simp)).weak (.cons (.slx ..) .nil)) fun _ => ?_
  rw [minL_two]
  (simp -dsimp only [↓z_put, Nat.reduceLT, ↓z_ops_plain, ↓z_binOp, ↓evW_tmp, ↓lkW_cons, ↓reduceIte, ↓evW_const, ↓constW_int, inR_i64, Int.reduceNeg, Int.reduceLE, and_self, ↓z_bn_geq, ↓z_move, ↓z_ops_guard, ↓z_grd, ↓z_dst_s, ↓z_dst_0, ↓z_grdD_b, ↓z_gdt, reduceCtorEq, ↓z_lk_env, Nat.reduceEqDiff, ↓z_gtt, ↓z_callv, ↓evW_func, ↓z_evL_cons, ↓z_evL_nil, ↓z_fun0, ↓z_coeL_cons, ↓z_coe_slx, ↓z_coeL_nil, true_and, ↓z_gnt, ↓z_gtf, ↓z_pick, ↓z_pick_b, ↓constW_bool, ↓z_assign, ↓z_ops_nil, ↓z_seq_nrm, ↓z_ret, ↓z_end_rt, resLW, res1W, Bool.not_true, ↓z_envF_cons, ↓z_envF_nil, ↓z_pack1, ↓z_coe_bool, D.bool.injEq, z_ite])
  refine ⟨fun h => call_fn ((fn_Max G [a, b] (by simp)).weak (.cons (.slx ..) .nil)) fun _ => ?_, fun h => ?_⟩
  · rw [maxL_two]
    (simp -dsimp only [↓z_put, Nat.reduceLT, ↓z_ops_guard, ↓z_grd, ↓z_dst_s, ↓z_dst_0, ↓lkW_cons, Nat.reduceEqDiff, ↓reduceIte, ↓z_grdD_b, ↓z_gtt, ↓z_binOp, ↓evW_tmp, ↓evW_const, ↓constW_int, inR_i64, Int.reduceNeg, Int.reduceLE, and_self, ↓z_bn_leq, ↓z_ops_plain, ↓z_pick, ↓z_pick_b, ↓z_assign, ↓z_ops_nil, ↓z_seq_nrm, ↓z_ret, ↓z_end_rt, resLW, res1W, ↓z_envF_cons, ↓z_envF_nil, ↓z_coeL_cons, ↓z_coeL_nil, ↓z_pack1, ↓z_coe_bool, D.bool.injEq, true_and]); (try simp only [Int.toNat_natCast, Nat.mul_one, Bool.or_false, Bool.false_or, Bool.or_self, Bool.or_true])
    exact decide_eq_decide.2 (by omega)
  · exact (decide_eq_false (by omega)).symm
/-- A range of instants. -/
abbrev valP (a b : Int) : Prop := 0 ≤ a ∧ a ≤ b ∧ b ≤ 3600000000
set_option maxRecDepth 100000 in
set_option maxHeartbeats 8000000 in
theorem fn_valid (G : Glob) (a b : Int) : Fn G Try.prog 40 [.agg [.int .i64 a, .int .i64 b]] (.bool (decide (valP a b))) := by
  refine Fn.mk (c := _) Try.func40 rfl rfl Try.ntmps40 Try.results40 ?_
  (simp -dsimp only [bodyW, List.length_cons, List.length_nil, Nat.zero_add, Nat.reduceLeDiff, wfL, ↓z_seq, ↓z_region, ↓z_ops_plain, ↓z_box, ↓evW_tmp, ↓z_lk_env, ↓reduceIte, ↓z_cl_agg, ↓z_nmC_cons, ↓z_mn'_int, ↓z_nmC_nil, and_self, ↓z_new, ↓z_nm_nil, Nat.reduceLT, ↓z_pg_env, ↓z_mn_agg, ↓z_pg_env0, ↓z_put, ↓z_assign, ↓evW_const, ↓constW_bool, ↓z_ops_nil, ↓z_seq_nrm, ↓z_fieldAddr, ↓lkW_cons, Nat.reduceEqDiff, ↓y_fl27x0, ↓y_sz3, ne_eq, reduceCtorEq, not_false_eq_true, ↓z_fa_ptr, ↓z_load, ↓y_ty3, ↓z_agTy_int, ↓loadW_ptr, ↓lkoW_cons, ↓z_rd_f, ↓nthW_cons, ↓y_fl27x1, Nat.reduceSub, ↓z_buildSlice, ↓y_ty99, ↓z_slTy, Nat.mul_one, maxLen_lit, ↓y_zr3, ↓z_repL_s, ↓z_repL_0, ↓z_cat_nil_r, ↓catW_cons, ↓catW_nil, ↓z_bld_cons, ↓z_cl_int, Nat.reduceAdd, ↓spsW_cons, ↓drW_cons, ↓drW_nil, ↓z_bld_nil, ↓z_allP_cons, ↓z_isP_int, ↓z_allP_nil, ↓z_callv, ↓evW_func, ↓z_evL_cons, ↓z_evL_nil, ↓z_fun0, ↓z_coeL_cons, ↓z_coe_slx, ↓z_coeL_nil, true_and])
  intro _
  refine call_fn (fn_instants2 G a b) fun _ => ?_
  (simp -dsimp only [↓z_put, Nat.reduceLT, ↓z_ops_plain, ↓z_move, ↓evW_tmp, ↓lkW_cons, ↓reduceIte, ↓z_ops_guard, ↓z_grd, ↓z_dst_s, ↓z_dst_0, ↓z_grdD_b, ↓z_gdt, ↓z_fieldAddr, Nat.reduceEqDiff, ↓y_fl27x0, ↓y_sz3, ne_eq, reduceCtorEq, not_false_eq_true, ↓z_fa_ptr, ↓z_gtt, ↓z_load, ↓y_ty3, ↓z_agTy_int, ↓loadW_ptr, ↓lkoW_cons, ↓z_rd_f, ↓nthW_cons, Nat.zero_add, ↓y_fl27x1, Nat.reduceSub, ↓z_binOp, ↓z_bn_leq, ↓z_pick, ↓z_pick_b, ↓z_assign, ↓z_ops_nil, ↓z_seq_nrm, ↓z_ret, ↓z_end_rt, resLW, res1W, ↓z_coeL_cons, ↓z_coeL_nil, ↓z_pack1, ↓z_coe_bool, D.bool.injEq, true_and, ↓z_gnt, ↓z_gtf, ↓evW_const, ↓constW_bool, Bool.not_true, z_ite]); (try simp only [Int.toNat_natCast, Nat.mul_one, Bool.or_false, Bool.false_or, Bool.or_self, Bool.or_true])
  refine ⟨fun h => decide_eq_decide.2 (by omega), fun h => (decide_eq_false (by omega)).symm⟩
set_option maxRecDepth 100000 in
set_option maxHeartbeats 8000000 in
theorem fn_instant (G : Glob) (a : Int) : Fn G Try.prog 37 [.int .i64 a] (.bool (decide (instP a))) := by
  refine Fn.mk (c := _) Try.func37 rfl rfl Try.ntmps37 Try.results37 ?_
  (simp -dsimp only [bodyW, List.length_cons, List.length_nil, Nat.zero_add, Nat.reduceLeDiff, wfL, ↓z_seq, ↓z_region, ↓z_ops_plain, ↓z_assign, ↓evW_const, ↓constW_bool, ↓z_put, Nat.reduceLT, ↓z_ops_nil, ↓z_seq_nrm, ↓z_move, ↓evW_tmp, ↓lkW_cons, reduceCtorEq, ↓reduceIte, ↓z_lk_env, ↓z_binOp, ↓constW_int, inR_i64, Int.reduceNeg, Int.reduceLE, and_self, ↓z_bn_geq, ↓z_ops_guard, ↓z_grd, ↓z_dst_s, ↓z_dst_0, ↓z_grdD_b, ↓z_gdt, Nat.reduceEqDiff, ↓z_gtt, ↓z_bn_leq, ↓z_pick, ↓z_pick_b, ↓z_ret, ↓z_end_rt, resLW, res1W, ↓z_envF_cons, ↓z_envF_nil, ↓z_coeL_cons, ↓z_coeL_nil, ↓z_pack1, ↓z_coe_bool, D.bool.injEq, true_and, ↓z_gnt, ↓z_gtf, Bool.not_true, z_ite]); (try simp only [Int.toNat_natCast, Nat.mul_one, Bool.or_false, Bool.false_or, Bool.or_self, Bool.or_true])
  intro _
  exact ⟨fun h => decide_eq_decide.2 (by omega), fun h => (decide_eq_false (by omega)).symm⟩
set_option maxRecDepth 100000 in
set_option maxHeartbeats 8000000 in
theorem fn_Valid (G : Glob) (a b : Int) : Fn G Try.prog 25 [.agg [.int .i64 a, .int .i64 b]] (.bool (decide (valP a b))) := by
  refine Fn.mk (c := _) Try.func25 rfl rfl Try.ntmps25 Try.results25 ?_
  (simp -dsimp only [bodyW, List.length_cons, List.length_nil, Nat.zero_add, Nat.reduceLeDiff, wfL, ↓z_seq, ↓z_region, ↓z_ops_plain, ↓z_box, ↓evW_tmp, ↓z_lk_env, ↓reduceIte, ↓z_cl_agg, ↓z_nmC_cons, ↓z_mn'_int, ↓z_nmC_nil, and_self, ↓z_new, ↓z_nm_nil, Nat.reduceLT, ↓z_pg_env, ↓z_mn_agg, ↓z_pg_env0, ↓z_put, ↓z_assign, ↓evW_const, ↓constW_bool, ↓z_ops_nil, ↓z_seq_nrm, ↓z_fieldAddr, ↓lkW_cons, Nat.reduceEqDiff, ↓y_fl27x0, ↓y_sz3, ne_eq, reduceCtorEq, not_false_eq_true, ↓z_fa_ptr, ↓z_load, ↓y_ty3, ↓z_agTy_int, ↓loadW_ptr, ↓lkoW_cons, ↓z_rd_f, ↓nthW_cons, ↓z_callv, ↓evW_func, ↓z_evL_cons, ↓z_evL_nil, ↓z_fun0, ↓z_coeL_cons, ↓z_coe_int, ↓z_coeL_nil, true_and])
  intro _
  refine call_fn (fn_instant G a) fun _ => ?_
  (simp -dsimp only [↓z_put, Nat.reduceLT, ↓z_ops_plain, ↓z_assign, ↓evW_tmp, ↓lkW_cons, ↓reduceIte, ↓z_ops_nil, ↓z_seq_nrm, ↓z_seq, ↓z_region, ↓z_fieldAddr, Nat.reduceEqDiff, ↓y_fl27x1, ↓y_sz3, ne_eq, reduceCtorEq, not_false_eq_true, ↓z_fa_ptr, ↓z_load, ↓y_ty3, ↓z_agTy_int, ↓loadW_ptr, ↓lkoW_cons, ↓z_rd_f, ↓nthW_cons, Nat.zero_add, Nat.reduceSub, ↓z_callv, ↓evW_func, ↓z_evL_cons, ↓z_evL_nil, ↓z_fun0, ↓z_coeL_cons, ↓z_coe_int, ↓z_coeL_nil, true_and])
  refine call_fn (fn_instant G b) fun _ => ?_
  (simp -dsimp only [↓z_put, Nat.reduceLT, ↓z_ops_plain, ↓z_assign, ↓evW_tmp, ↓lkW_cons, ↓reduceIte, ↓z_ops_nil, ↓z_seq_nrm, ↓z_seq, ↓z_region, ↓z_move, Nat.reduceEqDiff, ↓z_ops_guard, ↓z_grd, ↓z_dst_s, ↓z_dst_0, ↓z_grdD_b, ↓z_gdt, ↓z_pick, ↓z_pick_b, ↓z_gtt, ↓z_fieldAddr, ↓y_fl27x0, ↓y_sz3, ne_eq, reduceCtorEq, not_false_eq_true, ↓z_fa_ptr, ↓z_load, ↓y_ty3, ↓z_agTy_int, ↓loadW_ptr, ↓lkoW_cons, ↓z_rd_f, ↓nthW_cons, Nat.zero_add, ↓y_fl27x1, Nat.reduceSub, ↓z_binOp, ↓z_bn_leq, ↓z_ret, ↓z_end_rt, resLW, res1W, ↓z_coeL_cons, ↓z_coeL_nil, ↓z_pack1, ↓z_coe_bool, D.bool.injEq, true_and, ↓z_gnt, ↓z_gtf, ↓evW_const, ↓constW_bool, Bool.not_true, z_ite, ↓z_gft]); (try simp only [Int.toNat_natCast, Nat.mul_one, Bool.or_false, Bool.false_or, Bool.or_self, Bool.or_true])
  refine ⟨fun h => ⟨fun h2 => decide_eq_decide.2 (by omega), fun h2 => (decide_eq_false (by omega)).symm⟩, fun h => (decide_eq_false (by omega)).symm⟩
set_option maxRecDepth 100000 in
set_option maxHeartbeats 8000000 in
theorem fn_read (G : Glob) (l a b : Int) : Fn G Try.prog 42 [.agg [.int .i64 l, .int .i64 a, .int .i64 b]] (.bool (decide (instP l ∧ valP a b))) := by
  refine Fn.mk (c := _) Try.func42 rfl rfl Try.ntmps42 Try.results42 ?_
  (simp -dsimp only [bodyW, List.length_cons, List.length_nil, Nat.zero_add, Nat.reduceLeDiff, wfL, ↓z_seq, ↓z_region, ↓z_ops_plain, ↓z_box, ↓evW_tmp, ↓z_lk_env, ↓reduceIte, ↓z_cl_agg, ↓z_nmC_cons, ↓z_mn'_int, ↓z_nmC_nil, and_self, ↓z_new, ↓z_nm_nil, Nat.reduceLT, ↓z_pg_env, ↓z_mn_agg, ↓z_pg_env0, ↓z_put, ↓z_assign, ↓evW_const, ↓constW_bool, ↓z_ops_nil, ↓z_seq_nrm, ↓z_fieldAddr, ↓lkW_cons, Nat.reduceEqDiff, ↓y_fl29x0, ↓y_sz3, ne_eq, reduceCtorEq, not_false_eq_true, ↓z_fa_ptr, ↓z_load, ↓y_ty3, ↓z_agTy_int, ↓loadW_ptr, ↓lkoW_cons, ↓z_rd_f, ↓nthW_cons, ↓z_callv, ↓evW_func, ↓z_evL_cons, ↓z_evL_nil, ↓z_fun0, ↓z_coeL_cons, ↓z_coe_int, ↓z_coeL_nil, true_and])
  intro _
  refine call_fn (fn_instant G l) fun _ => ?_
  (simp -dsimp only [↓z_put, Nat.reduceLT, ↓z_ops_plain, ↓z_assign, ↓evW_tmp, ↓lkW_cons, ↓reduceIte, ↓z_ops_nil, ↓z_seq_nrm, ↓z_seq, ↓z_region, ↓z_fieldAddr, Nat.reduceEqDiff, ↓y_fl29x1, ↓y_sz27, ne_eq, reduceCtorEq, not_false_eq_true, ↓z_fa_ptr, ↓z_load, ↓y_ty27, ↓z_agTy_st, ↓loadW_ptr, ↓lkoW_cons, ↓z_rd_t, Nat.zero_add, Nat.reduceAdd, List.length_cons, List.length_nil, Nat.reduceLeDiff, ↓z_sub_cs, ↓z_sub_c, ↓z_sub_nil, ↓z_callv, ↓evW_func, ↓z_evL_cons, ↓z_evL_nil, ↓z_fun0, ↓z_coeL_cons, ↓z_coe_oag, ↓z_coeC_cons, ↓z_coeS_int, ↓z_coeC_nil, ↓z_coeL_nil, true_and])
  refine call_fn (fn_Valid G a b) fun _ => ?_
  (simp -dsimp only [↓z_put, Nat.reduceLT, ↓z_ops_plain, ↓z_assign, ↓evW_tmp, ↓lkW_cons, ↓reduceIte, ↓z_ops_nil, ↓z_seq_nrm, ↓z_seq, ↓z_region, ↓z_move, Nat.reduceEqDiff, ↓z_ops_guard, ↓z_grd, ↓z_dst_s, ↓z_dst_0, ↓z_grdD_b, ↓z_gdt, ↓z_pick, ↓z_pick_b, ↓z_gtt, ↓z_ret, ↓z_end_rt, resLW, res1W, Nat.zero_add, ↓z_coeL_cons, ↓z_coeL_nil, ↓z_pack1, ↓z_coe_bool, D.bool.injEq, true_and, ↓z_gnt, ↓z_gtf, ↓evW_const, ↓constW_bool, Bool.not_true, z_ite]); (try simp only [Int.toNat_natCast, Nat.mul_one, Bool.or_false, Bool.false_or, Bool.or_self, Bool.or_true])
  refine ⟨fun h => decide_eq_decide.2 (by omega), fun h => (decide_eq_false (by omega)).symm⟩
/-- How much time can have passed. -/
def pLo (r s : Int) : Int := if 0 < s then ((s - 1) * 1000000) / (1000000 + r) + 1 else 0
def pHi (r s : Int) : Int := ((s + 1) * 1000000 - 1) / (1000000 - r)
theorem pLo_rng {r s : Int} (h0 : 0 ≤ r) (h2 : 0 ≤ s) : 0 ≤ pLo r s ∧ pLo r s ≤ s := by
  unfold pLo
  split
  · have e1 : (s - 1) * 1000000 / (1000000 + r) ≤ s - 1 := Int.ediv_le_of_le_mul (by omega) (by
      have : 0 ≤ (s - 1) * r := Int.mul_nonneg (by omega) h0
      rw [Int.mul_add]; omega)
    have e2 : 0 ≤ (s - 1) * 1000000 / (1000000 + r) := Int.ediv_nonneg (by omega) (by omega)
    omega
  · omega
theorem pHi_rng {r s : Int} (h0 : 0 ≤ r) (h1 : r ≤ 100000) (h2 : 0 ≤ s) : 0 ≤ pHi r s ∧ pHi r s ≤ 2 * (s + 1) := by
  unfold pHi
  have e1 : ((s + 1) * 1000000 - 1) / (1000000 - r) ≤ 2 * (s + 1) := Int.ediv_le_of_le_mul (by omega) (by
    have : 0 ≤ (s + 1) * (100000 - r) := Int.mul_nonneg (by omega) (by omega)
    rw [Int.mul_sub] at this
    rw [Int.mul_sub]
    have e : 2 * (s + 1) * r = 2 * ((s + 1) * r) := by rw [Int.mul_assoc]
    omega)
  have e2 : 0 ≤ ((s + 1) * 1000000 - 1) / (1000000 - r) := Int.ediv_nonneg (by omega) (by omega)
  omega
theorem pLo_t {r s : Int} (h : 0 < s) : ((s - 1) * 1000000).tdiv (1000000 + r) + 1 = pLo r s := by
  unfold pLo; rw [if_pos h, Int.tdiv_eq_ediv_of_nonneg (by omega)]
theorem pHi_t {r s : Int} (h : 0 ≤ s) : ((s + 1) * 1000000 - 1).tdiv (1000000 - r) = pHi r s := by
  unfold pHi; rw [Int.tdiv_eq_ediv_of_nonneg (by omega)]
set_option maxRecDepth 100000 in
set_option maxHeartbeats 8000000 in
theorem fn_passed (G : Glob) (r s : Int) (h0 : 0 ≤ r) (h1 : r ≤ 100000) (h2 : 0 ≤ s) (h3 : s ≤ 3600000000) : Fn G Try.prog 36 [.int .i64 r, .int .i64 s] (.tup [.int .i64 (pLo r s), .int .i64 (pHi r s)]) := by
  refine Fn.mk (c := _) Try.func36 rfl rfl Try.ntmps36 Try.results36 ?_
  (simp -dsimp only [bodyW, List.length_cons, List.length_nil, Nat.zero_add, Nat.reduceAdd, Nat.reduceLeDiff, wfL, ↓z_seq, ↓z_region, ↓z_ops_plain, ↓z_assign, ↓evW_const, ↓constW_int, inR_i64, Int.reduceNeg, Int.reduceLE, and_self, ↓z_put, Nat.reduceLT, ↓z_ops_nil, ↓z_seq_nrm, ↓z_move, ↓evW_tmp, ↓lkW_cons, Nat.reduceEqDiff, ↓reduceIte, ↓z_lk_env, reduceCtorEq, ↓z_binOp, ↓z_bn_gtr, ↓z_cond, ↓z_cnd, ↓z_gdt, ↓z_bn_sub, ↓wrW_i64, ↓z_bn_mul, ↓z_bn_add, ↓z_bn_quo, ↓z_quo_i64, ne_eq, ↓z_region_d, ↓y_mix, true_and, ↓z_skip, z_ite])
  intro _ _
  have rl := pLo_rng h0 h2
  have rh := pHi_rng h0 h1 h2
  have eh := pHi_t (r := r) h2
  refine ⟨fun g => ?_, fun g => ?_⟩
  · have el := pLo_t (r := r) g
    refine ⟨by omega, by omega, by omega, by omega, by omega, by omega, ?_⟩
    rw [el]
    refine rgn_q (by decide +kernel) rfl ?_
    (simp -dsimp only [↓z_ops_plain, ↓z_move, ↓evW_tmp, ↓lkW_cons, ↓reduceIte, ↓z_put, Nat.reduceLT, Nat.reduceEqDiff, ↓z_lk_env, reduceCtorEq, Nat.zero_add, ↓z_binOp, ↓evW_const, ↓constW_int, inR_i64, Int.reduceNeg, Int.reduceLE, and_self, ↓z_bn_add, ↓wrW_i64, ↓z_bn_mul, ↓z_bn_sub, ↓z_bn_quo, ↓z_quo_i64, ne_eq, eh, ↓z_assign, ↓z_ops_nil, ↓z_seq_nrm, ↓z_ret, ↓z_end_rt, resLW, res1W, ↓z_envF_cons, ↓z_envF_nil, ↓z_coeL_cons, ↓z_coeL_nil, ↓z_pack2, D.tup.injEq, List.cons.injEq, and_true, ↓z_coe_int, true_and]); (try simp only [Int.toNat_natCast, Nat.mul_one, Bool.or_false, Bool.false_or, Bool.or_self, Bool.or_true])
    exact ⟨by omega, by omega, by omega, by omega, by omega, by omega⟩
  · have el : pLo r s = 0 := by unfold pLo; rw [if_neg g]
    refine rgn_q (by decide +kernel) rfl ?_
    (simp -dsimp only [↓z_ops_plain, ↓z_move, ↓evW_tmp, ↓lkW_cons, Nat.reduceEqDiff, ↓reduceIte, ↓z_put, Nat.reduceLT, ↓z_lk_env, reduceCtorEq, Nat.zero_add, ↓z_binOp, ↓evW_const, ↓constW_int, inR_i64, Int.reduceNeg, Int.reduceLE, and_self, ↓z_bn_add, ↓wrW_i64, ↓z_bn_mul, ↓z_bn_sub, ↓z_bn_quo, ↓z_quo_i64, ne_eq, eh, ↓z_assign, ↓z_ops_nil, ↓z_seq_nrm, ↓z_ret, ↓z_end_rt, resLW, res1W, ↓z_envF_cons, ↓z_envF_nil, ↓z_coeL_cons, ↓z_coeL_nil, ↓z_pack2, D.tup.injEq, List.cons.injEq, and_true, ↓z_coe_int, D.int.injEq, true_and]); (try simp only [Int.toNat_natCast, Nat.mul_one, Bool.or_false, Bool.false_or, Bool.or_self, Bool.or_true])
    exact ⟨by omega, by omega, by omega, by omega, by omega, by omega, el.symm⟩
set_option maxRecDepth 100000 in
set_option maxHeartbeats 8000000 in
theorem fn_size (G : Glob) (a : Int) (h : -9223372036854775807 ≤ a) : Fn G Try.prog 54 [.int .i64 a] (.int .i64 (a.natAbs : Int)) := by
  refine Fn.mk (c := _) Try.func54 rfl rfl Try.ntmps54 Try.results54 ?_
  (simp -dsimp only [bodyW, List.length_cons, List.length_nil, Nat.zero_add, Nat.reduceLeDiff, wfL, ↓z_seq, ↓z_region, ↓z_ops_plain, ↓z_assign, ↓evW_const, ↓constW_int, inR_i64, Int.reduceNeg, Int.reduceLE, and_self, ↓z_put, Nat.reduceLT, ↓z_ops_nil, ↓z_seq_nrm, ↓z_move, ↓evW_tmp, ↓lkW_cons, reduceCtorEq, ↓reduceIte, ↓z_lk_env, ↓z_binOp, ↓z_bn_lss, ↓z_cond, ↓z_cnd, ↓z_gdt, ↓z_unOp, ↓z_un_neg, ↓wrW_i64, ↓z_ret, ↓z_seq_rt, ↓z_end_rt, resLW, res1W, ↓z_envF_cons, ↓z_envF_nil, ↓z_coeL_cons, ↓z_coeL_nil, ↓z_pack1, ↓z_coe_int, D.int.injEq, true_and, ↓z_skip, z_ite]); (try simp only [Int.toNat_natCast, Nat.mul_one, Bool.or_false, Bool.false_or, Bool.or_self, Bool.or_true])
  intro _
  exact ⟨fun g => ⟨by omega, by omega⟩, fun g => by omega⟩
theorem ediv_mk {a b k : Int} (hb : 0 < b) (h1 : k * b ≤ a) (h2 : a < k * b + b) : a / b = k := by
  have e1 := Int.le_ediv_of_mul_le hb h1
  have e2 := Int.ediv_lt_of_lt_mul hb (show a < (k + 1) * b by rw [Int.add_mul]; omega)
  omega
theorem pHi_r {r s : Int} (h1 : r ≤ 100000) : pHi r s = if (s + 1) * 1000000 / (1000000 - r) * (1000000 - r) = (s + 1) * 1000000 then (s + 1) * 1000000 / (1000000 - r) - 1 else (s + 1) * 1000000 / (1000000 - r) := by
  unfold pHi
  generalize (s + 1) * 1000000 = A
  have hb : 0 < 1000000 - r := by omega
  generalize 1000000 - r = B at hb
  have e1 := Int.mul_ediv_add_emod A B
  have e2 := Int.emod_nonneg A (show B ≠ 0 by omega)
  have e3 := Int.emod_lt_of_pos A hb
  rw [Int.mul_comm] at e1
  split
  · rename_i h
    refine ediv_mk hb ?_ ?_ <;> rw [Int.sub_mul] <;> omega
  · rename_i h
    exact ediv_mk hb (by omega) (by omega)
def pasE (r s : Int) : Int := if r < 0 ∨ 100000 < r ∨ ¬ instP s then 3 else 0
def pasL (r s : Int) : Int := if r < 0 ∨ 100000 < r ∨ ¬ instP s then 0 else pLo r s
def pasH (r s : Int) : Int := if r < 0 ∨ 100000 < r ∨ ¬ instP s then 0 else pHi r s
set_option maxRecDepth 100000 in
set_option maxHeartbeats 8000000 in
theorem fn_Passed (G : Glob) (r s : Int) : Fn G Try.prog 12 [.int .i64 r, .int .i64 s] (.tup [.int .i64 (pasL r s), .int .i64 (pasH r s), .int .i64 (pasE r s)]) := by
  refine Fn.mk (c := _) Try.func12 rfl rfl Try.ntmps12 Try.results12 ?_
  (simp -dsimp only [bodyW, List.length_cons, List.length_nil, Nat.zero_add, Nat.reduceAdd, Nat.reduceLeDiff, wfL, ↓z_seq, ↓z_region, ↓z_ops_plain, ↓z_assign, ↓evW_const, ↓constW_int, inR_i64, Int.reduceNeg, Int.reduceLE, and_self, ↓z_put, Nat.reduceLT, ↓z_ops_nil, ↓z_seq_nrm, ↓z_move, ↓evW_tmp, ↓lkW_cons, reduceCtorEq, ↓reduceIte, ↓z_lk_env, ↓z_binOp, ↓z_bn_lss, ↓z_ops_guard, ↓z_grd, ↓z_dst_s, ↓z_dst_0, ↓z_grdD_b, ↓z_gdf, Nat.reduceEqDiff, ↓z_gnf, ↓z_gft, ↓z_pick, ↓z_pick_b, ↓z_gnt, ↓z_gff, ↓constW_bool, ↓z_gtf, ↓z_cond, ↓z_cnd, ↓z_gtt, ↓z_ret, ↓z_seq_rt, ↓z_end_rt, resLW, res1W, Bool.not_false, ↓z_envF_cons, ↓z_envF_nil, ↓z_coeL_cons, ↓z_coeL_nil, ↓z_pack2, D.tup.injEq, List.cons.injEq, and_true, ↓z_coe_int, D.int.injEq, true_and, ↓z_bn_gtr, ↓z_buildSlice, ↓y_ty99, ↓z_slTy, ↓y_sz3, Nat.mul_one, maxLen_lit, ↓y_zr3, ↓z_repL_s, ↓z_repL_0, ↓z_cat_nil_r, ↓z_bld_cons, ↓z_cl_int, ↓spsW_cons, ↓drW_cons, ↓drW_nil, ↓z_bld_nil, ↓z_allP_cons, ↓z_isP_int, ↓z_allP_nil, ↓z_callv, ↓evW_func, ↓z_evL_cons, ↓z_evL_nil, ↓z_fun0, ↓z_coe_slx, z_ite])
  intro _ _
  unfold pasL pasH pasE
  by_cases C : r < 0 ∨ 100000 < r ∨ ¬ instP s
  · simp only [if_pos C]
    refine ⟨fun _ => ⟨trivial, trivial, trivial⟩, fun g => ⟨fun _ => ⟨trivial, trivial, trivial⟩, fun g2 => call_fn (fn_instants1 G s) fun _ => ?_⟩⟩
    (simp -dsimp only [↓z_put, Nat.reduceLT, ↓z_ops_guard, ↓z_grd, ↓z_dst_s, ↓z_dst_0, ↓lkW_cons, Nat.reduceEqDiff, ↓reduceIte, ↓z_grdD_b, ↓z_gff, ↓z_unOp, ↓evW_tmp, ↓z_un_not, ↓z_ops_plain, ↓z_pick, ↓z_pick_b, ↓z_gft, ↓z_ops_nil, ↓z_seq_nrm, ↓z_cond, ↓z_cnd, ↓z_gnt, ↓z_gdf, ↓z_skip, ↓z_seq, ↓z_region, ↓z_move, reduceCtorEq, ↓z_lk_env, Nat.zero_add, ↓z_callv, ↓evW_func, ↓z_evL_cons, ↓z_evL_nil, ↓z_fun0, ↓z_coeL_cons, ↓z_coe_int, ↓z_coeL_nil, true_and, ↓z_assign, ↓evW_const, ↓constW_int, inR_i64, Int.reduceNeg, Int.reduceLE, and_self, ↓z_ret, ↓z_seq_rt, ↓z_end_rt, resLW, res1W, ↓z_envF_cons, ↓z_envF_nil, ↓z_pack2, D.tup.injEq, List.cons.injEq, and_true, D.int.injEq, z_ite]); (try simp only [Int.toNat_natCast, Nat.mul_one, Bool.or_false, Bool.false_or, Bool.or_self, Bool.or_true])
    exact ⟨fun g3 => by omega, fun g3 => ⟨(if_pos C).symm, (if_pos C).symm, (if_pos C).symm⟩⟩
  · simp only [if_neg C]
    refine ⟨fun g => by omega, fun g => ⟨fun g2 => by omega, fun g2 => call_fn (fn_instants1 G s) fun _ => ?_⟩⟩
    (simp -dsimp only [↓z_put, Nat.reduceLT, ↓z_ops_guard, ↓z_grd, ↓z_dst_s, ↓z_dst_0, ↓lkW_cons, Nat.reduceEqDiff, ↓reduceIte, ↓z_grdD_b, ↓z_gff, ↓z_unOp, ↓evW_tmp, ↓z_un_not, ↓z_ops_plain, ↓z_pick, ↓z_pick_b, ↓z_gft, ↓z_ops_nil, ↓z_seq_nrm, ↓z_cond, ↓z_cnd, ↓z_gnt, ↓z_gdf, ↓z_skip, ↓z_seq, ↓z_region, ↓z_move, reduceCtorEq, ↓z_lk_env, Nat.zero_add, ↓z_callv, ↓evW_func, ↓z_evL_cons, ↓z_evL_nil, ↓z_fun0, ↓z_coeL_cons, ↓z_coe_int, ↓z_coeL_nil, true_and, ↓z_assign, ↓evW_const, ↓constW_int, inR_i64, Int.reduceNeg, Int.reduceLE, and_self, ↓z_ret, ↓z_seq_rt, ↓z_end_rt, resLW, res1W, ↓z_envF_cons, ↓z_envF_nil, ↓z_pack2, D.tup.injEq, List.cons.injEq, and_true, D.int.injEq, z_ite]); (try simp only [Int.toNat_natCast, Nat.mul_one, Bool.or_false, Bool.false_or, Bool.or_self, Bool.or_true])
    refine ⟨fun g3 => call_fn (fn_passed G r s (by omega) (by omega) (by omega) (by omega)) fun _ => ?_, fun g3 => by omega⟩
    (simp -dsimp only [↓z_put, Nat.reduceLT, ↓z_ops_plain, ↓z_move, ↓evW_tmp, ↓lkW_cons, ↓reduceIte, ↓z_extract, ↓z_ex, ↓nthW_cons, Nat.reduceEqDiff, reduceCtorEq, Nat.reduceSub, ↓z_assign, ↓z_ops_nil, ↓z_seq_nrm, ↓z_seq, ↓z_region, ↓evW_const, ↓constW_int, inR_i64, Int.reduceNeg, Int.reduceLE, and_self, ↓z_ret, ↓z_end_rt, resLW, res1W, ↓z_envF_cons, Nat.zero_add, ↓z_envF_nil, ↓z_coeL_cons, ↓z_coeL_nil, ↓z_pack2, D.tup.injEq, List.cons.injEq, and_true, ↓z_coe_int, D.int.injEq, true_and]); (try simp only [Int.toNat_natCast, Nat.mul_one, Bool.or_false, Bool.false_or, Bool.or_self, Bool.or_true])
    exact ⟨(if_neg C).symm, (if_neg C).symm, (if_neg C).symm⟩
set_option maxRecDepth 100000 in
set_option maxHeartbeats 8000000 in
theorem fn_refPassed (G : Glob) (r s : Int) : Fn G Try.prog 13 [.int .i64 r, .int .i64 s] (.agg [.int .i64 (pasL r s), .int .i64 (pasH r s), .int .i64 (pasE r s)]) := by
  refine Fn.mk (c := _) Try.func13 rfl rfl Try.ntmps13 Try.results13 ?_
  (simp -dsimp only [bodyW, List.length_cons, List.length_nil, Nat.zero_add, Nat.reduceAdd, Nat.reduceLeDiff, wfL, ↓z_seq, ↓z_region, ↓z_ops_plain, ↓z_alloc, ↓y_zr36, ↓z_new, ↓z_nm_nil, Nat.reduceLT, ↓z_pg_env, ↓z_mn_int, ↓z_pg_env0, ↓z_put, ↓z_ops_nil, ↓z_seq_nrm, ↓z_move, ↓evW_tmp, ↓lkW_cons, Nat.reduceEqDiff, ↓reduceIte, reduceCtorEq, ↓z_callv, ↓evW_func, ↓z_evL_cons, ↓z_evL_nil, ↓z_fun0, ↓z_coeL_cons, ↓z_coe_int, ↓z_coeL_nil, true_and])
  intro _ _
  refine call_fn (fn_instant G s) fun _ => ?_
  (simp -dsimp only [↓z_put, Nat.reduceLT, ↓z_ops_plain, ↓z_assign, ↓evW_tmp, ↓lkW_cons, ↓reduceIte, ↓z_ops_nil, ↓z_seq_nrm, ↓z_seq, ↓z_region, ↓z_move, reduceCtorEq, ↓z_binOp, ↓evW_const, ↓constW_int, inR_i64, Int.reduceNeg, Int.reduceLE, and_self, ↓z_bn_lss, ↓z_ops_guard, ↓z_grd, ↓z_dst_s, ↓z_dst_0, ↓z_grdD_b, ↓z_gdf, Nat.reduceEqDiff, ↓z_gnf, ↓z_gft, ↓z_pick, ↓z_pick_b, ↓z_gnt, ↓z_gff, ↓constW_bool, ↓z_gtf, ↓z_cond, ↓z_cnd, ↓z_gtt, ↓z_build, ↓y_ty36, ↓z_blTy_st, ↓y_zr36, ↓z_bld_cons, ↓y_fl36x2, ↓y_sz32, ↓z_cl_int, List.length_cons, List.length_nil, Nat.zero_add, Nat.reduceAdd, Nat.reduceLeDiff, ↓spsW_cons, Nat.reduceSub, ↓drW_cons, ↓drW_nil, ↓z_cat_nil_r, ↓z_bld_nil, ↓z_store, ↓y_sz36, ↓z_cl_oag, ↓z_store_ptr, ↓lkoW_cons, ↓z_so_cons, ↓z_put_none, ↓z_ret, ↓z_seq_rt, ↓z_end_rt, resLW, res1W, Bool.not_false, ↓z_agTy_st, ↓z_coeL_cons, ↓z_coeL_nil, ↓z_pack1, ↓loadW_ptr, ↓z_rd_t, ↓z_sub_c, ↓z_sub_nil, ↓z_coe_oag, ↓z_coeC_cons, ↓z_coeS_int, ↓z_coeC_nil, D.agg.injEq, List.cons.injEq, D.int.injEq, true_and, and_true, ↓z_bn_gtr, ↓z_unOp, ↓z_un_not, ↓z_skip, ↓z_gdt, ↓z_bn_sub, ↓wrW_i64, ↓z_bn_mul, ↓z_bn_add, ↓z_bn_quo, ↓z_quo_i64, ne_eq, ↓z_bn_eql, ↓y_fl36x0, ↓y_sz3, ↓catW_cons, ↓catW_nil, ↓y_fl36x1, z_ite]); (try simp only [Int.toNat_natCast, Nat.mul_one, Bool.or_false, Bool.false_or, Bool.or_self, Bool.or_true])
  unfold pasL pasH pasE
  by_cases C : r < 0 ∨ 100000 < r ∨ ¬ instP s
  · simp only [if_pos C]
    refine ⟨fun _ => ⟨rfl, trivial, trivial, trivial⟩, fun g => ⟨fun _ => ⟨rfl, trivial, trivial, trivial⟩, fun g2 => ⟨fun g3 => by omega, fun _ => ⟨rfl, trivial, trivial, trivial⟩⟩⟩⟩
  · simp only [if_neg C]
    refine ⟨fun g => by omega, fun g => ⟨fun g2 => by omega, fun g2 => ⟨fun g3 => ?_, fun g3 => by omega⟩⟩⟩
    have hp := pHi_r (r := r) (s := s) (by omega)
    have hr := pHi_rng (r := r) (s := s) (by omega) (by omega) (by omega)
    have hl := pLo_rng (r := r) (s := s) (by omega) (by omega)
    rw [← Int.tdiv_eq_ediv_of_nonneg (by omega)] at hp
    have hm : ((s + 1) * 1000000).tdiv (1000000 - r) * (1000000 - r) ≤ (s + 1) * 1000000 := by rw [Int.tdiv_eq_ediv_of_nonneg (by omega)]; exact Int.ediv_mul_le _ (by omega)
    have hm0 : 0 ≤ ((s + 1) * 1000000).tdiv (1000000 - r) * (1000000 - r) := Int.mul_nonneg (by rw [Int.tdiv_eq_ediv_of_nonneg (by omega)]; exact Int.ediv_nonneg (by omega) (by omega)) (by omega)
    have hq : ((s + 1) * 1000000).tdiv (1000000 - r) ≤ pHi r s + 1 := by split at hp <;> omega
    have hq0 : 0 ≤ ((s + 1) * 1000000).tdiv (1000000 - r) := by rw [Int.tdiv_eq_ediv_of_nonneg (by omega)]; exact Int.ediv_nonneg (by omega) (by omega)
    have hs : s ≤ 3600000000 := g3.2
    have hs0 : 0 ≤ s := g3.1
    refine ⟨fun g => ?_, fun g => ?_⟩
    · have el := pLo_t (r := r) g
      refine ⟨by omega, by omega, by omega, by omega, by omega, by omega, by omega, by omega, by omega, by omega, by omega, by omega, by omega, by omega, by omega, fun g4 => ?_, fun g4 => ?_⟩
      · rw [if_pos g4] at hp; exact ⟨by omega, rfl, el, hp.symm, trivial⟩
      · rw [if_neg g4] at hp; exact ⟨rfl, el, hp.symm, trivial⟩
    · have el : pLo r s = 0 := by unfold pLo; rw [if_neg g]
      refine ⟨by omega, by omega, by omega, by omega, by omega, by omega, by omega, by omega, by omega, fun g4 => ?_, fun g4 => ?_⟩
      · rw [if_pos g4] at hp; exact ⟨by omega, rfl, el.symm, hp.symm, trivial⟩
      · rw [if_neg g4] at hp; exact ⟨rfl, el.symm, hp.symm, trivial⟩
end Go.Abs

