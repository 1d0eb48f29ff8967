/-
  WIRE, eleventh walks: the laws' own helpers.
-/
import Derived.Test.YtkhjapkjhjkdiaaW10
import Derived.Test.YtkhjapkjhjkdiaaAbs20
namespace Go.Abs
open Go.Proofs

def lens (l : List (List UInt8)) : Nat := (l.map List.length).sum
theorem lens_take (l : List (List UInt8)) (i : Nat) (h : i < l.length) : lens (l.take (i + 1)) = lens (l.take i) + l[i].length := by
  have e1 : l.take (i + 1) = l.take i ++ [l[i]] := by simp
  unfold lens
  rw [e1, List.map_append, List.sum_append]; simp
theorem lens_le (l : List (List UInt8)) (i : Nat) : lens (l.take i) ≤ lens l := by
  have : lens l = lens (l.take i) + lens (l.drop i) := by
    unfold lens; rw [← List.sum_append, ← List.map_append, List.take_append_drop]
  omega

set_option maxRecDepth 100000 in
set_option maxHeartbeats 8000000 in
theorem fn_few (G : Glob) (l : List (List UInt8)) (hb : l.length + lens l ≤ 1000000000) : Fn G Try.prog 11 [.sl 1 l.length (l.map D.str)] (.bool (decide (l.length + lens l ≤ 2000))) := by
  refine Fn.mk (c := _) Try.func11 rfl rfl Try.ntmps11 Try.results11 ?_
  (simp -dsimp only [bodyW, List.length_cons, List.length_nil, Nat.zero_add, Nat.reduceLeDiff, wfL, ↓z_seq, ↓z_region, ↓z_ops_plain, ↓z_assign, ↓evW_const, ↓constW_bool, ↓z_put, Nat.reduceLT, ↓z_ops_nil, ↓z_seq_nrm, ↓z_move, ↓evW_tmp, ↓lkW_cons, reduceCtorEq, ↓reduceIte, ↓z_lk_env, ↓z_callb, ↓z_evL_cons, ↓z_evL_nil, ↓z_len, ↓y_ty23, ↓z_ln_sl, ↓constW_int, inR_i64, Int.reduceNeg, Int.reduceLE, and_self, ↓z_block, ↓z_loop, true_and])
  intro hwf
  refine hold_intro ⟨[], Nat, fun i => ⟨21, 0, [(10, .int .i64 i), (9, .int .i64 l.length), (8, .sl 1 l.length (l.map D.str)), (3, .int .i64 ((l.length + lens (l.take i) : Nat) : Int))], []⟩,
    fun i => i ≤ l.length, fun i => l.length - i, ?_, ?_⟩
  · (simp -dsimp only [↓z_ad_nil, ↓z_wk, ↓z_wkE_cons, ↓lkW_cons, ↓reduceIte, D.int.injEq, true_and, Nat.reduceEqDiff, ↓z_wkE_nil, and_true, ↓z_wkO_nil]); (try simp only [Int.toNat_natCast, Nat.mul_one, Bool.or_false, Bool.false_or, Bool.or_self, Bool.or_true])
    exact ⟨0, by simp, rfl, by simp [lens]⟩
  · intro i hi
    (simp -dsimp only [↓z_seq, ↓z_region, ↓z_ops_plain, ↓z_binOp, ↓evW_tmp, ↓lkW_cons, ↓reduceIte, Nat.reduceEqDiff, ↓z_bn_lss, ↓z_put, Nat.reduceLT, ↓z_ops_nil, ↓z_seq_nrm, ↓z_cond, ↓z_cnd, ↓z_gdt, ↓z_skip, ↓z_block, ↓z_indexAddr, ↓y_ty23, ↓z_elTy_sl, ↓y_sz9, ↓z_ix_sl, ↓z_load, ↓y_ty9, ↓z_agTy_str, ↓loadW_rop, ↓z_rd_f, ↓z_nth_str, ↓z_assign, ↓z_move, ↓z_callb, ↓z_evL_cons, ↓z_evL_nil, ↓z_len, ↓z_ln_str, ↓z_bn_add, ↓wrW_i64, Nat.mul_one, inR_i64, Int.reduceNeg, ↓z_blk_nrm, ↓evW_const, ↓constW_int, Int.reduceLE, and_self, ↓z_lp_nrm, ↓z_wk, ↓z_wkE_cons, D.int.injEq, true_and, ↓z_wkE_nil, and_true, ↓z_wkO_nil, ↓z_exit, ↓z_seq_ext, ↓z_lp_ext, ↓z_blk_ext, ↓z_bn_leq, ↓z_ret, ↓z_end_rt, resLW, res1W, ↓z_coeL_cons, ↓z_coeL_nil, ↓z_pack1, ↓z_coe_bool, D.bool.injEq, z_ite]); (try simp only [Int.toNat_natCast])
    have hl := lens_le l i
    refine ⟨fun hlt => ?_, fun hge => ?_⟩
    · have hlt : i < l.length := by omega
      have h2 := lens_take l i hlt
      have h3 := lens_le l (i + 1)
      exact ⟨by omega, by omega, hlt, by omega, by omega, i + 1, by omega, by omega, by omega, by omega⟩
    · have : i = l.length := by omega
      subst this
      rw [List.take_length]
      rw [Bool.eq_iff_iff]; simp only [decide_eq_true_eq]; omega

set_option maxRecDepth 100000 in
set_option maxHeartbeats 8000000 in
theorem fn_consumed (G : Glob) (b c : List UInt8) (m : Nat) (u e : Int) (hb : b.length ≤ 100000) : Fn G Try.prog 37 [.sl 1 b.length (b.map bD), .sl 1 m (c.map bD), .int .i64 u, .int .i64 e] (.bool (decide (e ≠ 0 ∨ 0 ≤ u ∧ u ≤ b.length ∧ c = b.take u.toNat))) := by
  refine Fn.mk (c := _) Try.func37 rfl rfl Try.ntmps37 Try.results37 ?_
  (simp -dsimp only [bodyW, List.length_cons, List.length_nil, Nat.zero_add, Nat.reduceAdd, Nat.reduceLeDiff, wfL, ↓z_seq, ↓z_region, ↓z_ops_plain, ↓z_assign, ↓evW_const, ↓constW_bool, ↓z_put, Nat.reduceLT, ↓z_ops_nil, ↓z_seq_nrm, ↓z_move, ↓evW_tmp, ↓lkW_cons, Nat.reduceEqDiff, ↓reduceIte, ↓z_lk_env, reduceCtorEq, ↓z_binOp, ↓constW_int, inR_i64, Int.reduceNeg, Int.reduceLE, and_self, ↓z_bn_neq, ↓z_ops_guard, ↓z_grd, ↓z_dst_s, ↓z_dst_0, ↓z_grdD_b, ↓z_gdf, ne_eq, ↓z_gnf, ↓z_gft, ↓z_grdD_u, ↓z_pick, ↓z_pick_b, ↓z_gnt, ↓z_gff, ↓z_ret, ↓z_end_rt, resLW, res1W, Bool.not_false, ↓z_coeL_cons, ↓z_coeL_nil, ↓z_pack1, ↓z_coe_bool, D.bool.injEq, true_and, ↓z_bn_geq, ↓z_gdt, ↓z_gtt, ↓z_callb, ↓z_evL_cons, ↓z_evL_nil, ↓z_len, ↓y_ty28, ↓z_ln_sl, ↓z_bn_leq, ↓z_min, ↓z_mx_min, ↓z_mx_nil, ↓z_max, ↓z_mx_max, ↓z_slice, ↓z_evO_none, ↓z_bo_none, ↓z_evO_some, ↓z_bo_some, ↓z_seTy_sl, ↓y_sz5, ↓z_slc_sl_nh, ↓z_sub_map, ↓z_callv, ↓evW_func, ↓z_fun0, ↓z_coe_sl, ↓z_gtf, Bool.not_true, z_ite, Classical.not_not])
  intro _ _ _ _
  refine ⟨fun h => by simp [h], fun he => ⟨fun h0 => ⟨fun h1 => ?_, fun h1 => ?_⟩, fun h0 => ?_⟩⟩
  · have e1 : max 0 (min u (b.length : Int)) = u := by omega
    rw [e1]
    refine ⟨h0, h1, call_fn (fn_Same G c _ m u.toNat) fun _ => ?_⟩
    (simp -dsimp only [↓z_put, Nat.reduceLT, ↓z_ops_guard, ↓z_grd, ↓z_dst_s, ↓z_dst_0, ↓lkW_cons, Nat.reduceEqDiff, ↓reduceIte, ↓z_grdD_b, ↓z_gff, ↓z_pick, ↓evW_tmp, ↓z_pick_b, ↓z_gtt, ↓z_ops_plain, ↓z_gft, ↓z_assign, ↓z_ops_nil, ↓z_seq_nrm, ↓z_ret, ↓z_end_rt, resLW, res1W, Nat.mul_one, ne_eq, ↓z_coeL_cons, ↓z_coeL_nil, ↓z_pack1, ↓z_coe_bool, D.bool.injEq, true_and]); (try simp only [Int.toNat_natCast, Nat.mul_one, Bool.or_false, Bool.false_or, Bool.or_self, Bool.or_true])
    simp [he, h0, h1]
  · simp [he, h1]
  · simp [he, h0]
end Go.Abs

