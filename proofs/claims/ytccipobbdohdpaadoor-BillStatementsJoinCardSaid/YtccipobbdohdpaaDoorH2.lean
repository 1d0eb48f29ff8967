/-
  HASH, second walks: rotations, the schedule.
-/
import Derived.Test.YtccipobbdohdpaaDoorS1
import Derived.Test.YtccipobbdohdpaaDoorH1
namespace Go.Abs
open Go.Proofs
set_option maxRecDepth 100000 in
set_option maxHeartbeats 8000000 in
theorem fn_Rot (G : Glob) (x n : Nat) (h0 : 0 < n) (h : n < 32) : Fn G Tryd.prog 62 [.int .u32 (x : Int), .int .i64 (-(n : Int))] (.int .u32 ((rr x n : Nat) : Int)) := by
  refine Fn.mk (c := _) Tryd.func62 rfl rfl Tryd.ntmps62 Tryd.results62 ?_
  (simp -dsimp only [bodyW, List.length_cons, List.length_nil, Nat.zero_add, Nat.reduceAdd, Nat.reduceLeDiff, wfL, ↓z_seq, ↓z_region, ↓z_ops_plain, ↓z_assign, ↓evW_const, ↓constW_int, inR_u32, Int.reduceLE, and_self, ↓z_put, Nat.reduceLT, ↓z_ops_nil, ↓z_seq_nrm, ↓z_move, ↓evW_tmp, ↓lkW_cons, Nat.reduceEqDiff, ↓reduceIte, ↓z_lk_env, reduceCtorEq, ↓z_convert, ↓y_ty3, ↓y_ty105, ↓z_cvt_int, ↓z_cv_int, ↓z_cvi_i64_u64, ↓z_binOp, inR_u64, ↓z_bn_and, ↓z_bn_shl, ↓z_bn_sub, ↓wrW_u64, ↓z_bn_shr, ↓z_bn_or, ↓z_ret, ↓z_end_rt, resLW, res1W, ↓z_envF_cons, ↓z_envF_nil, ↓z_coeL_cons, ↓z_coeL_nil, ↓z_pack1, ↓z_coe_int, D.int.injEq, true_and]); (try simp only [Int.toNat_natCast, Nat.mul_one, Bool.or_false, Bool.false_or, Bool.or_self, Bool.or_true])
  intro _ _
  rw [rot_cnt h h0]
  have e : IntKind.u64.wrap (32 - ((32 - n : Nat) : Int)) = ((n : Nat) : Int) := by rw [IntKind.wrap_u64]; omega
  rw [e, u32_shl _ _ (by omega), u32_shr _ _ (by omega), u32_or, oo_comm]
  exact ⟨by omega, by omega, rfl⟩
set_option maxRecDepth 100000 in
set_option maxHeartbeats 8000000 in
theorem fn_rotr (G : Glob) (x n : Nat) (h0 : 0 < n) (h : n < 32) : Fn G Tryd.prog 61 [.int .u32 (x : Int), .int .i64 (n : Int)] (.int .u32 ((rr x n : Nat) : Int)) := by
  refine Fn.mk (c := _) Tryd.func61 rfl rfl Tryd.ntmps61 Tryd.results61 ?_
  (simp -dsimp only [bodyW, List.length_cons, List.length_nil, Nat.zero_add, Nat.reduceAdd, Nat.reduceLeDiff, wfL, ↓z_seq, ↓z_region, ↓z_ops_plain, ↓z_assign, ↓evW_const, ↓constW_int, inR_u32, Int.reduceLE, and_self, ↓z_put, Nat.reduceLT, ↓z_ops_nil, ↓z_seq_nrm, ↓z_region_d, ↓y_mix, true_and])
  intro _ _
  refine rgn_d (by decide +kernel) ?_
  (simp -dsimp only [↓z_drw_move, ↓z_drwS, ↓z_grd_none, ↓z_withE, ↓z_rd_tmp, ↓lkW_cons, reduceCtorEq, ↓reduceIte, ↓z_lk_env, ↓z_rd_nil, ↓z_ap_cons, ↓z_ap_nil, ↓z_or_move, ↓z_move, ↓evW_tmp, and_true, ↓z_exD_all, ↓z_exD_eq, ↓z_put, Nat.reduceLT, ↓z_drwK, Nat.reduceEqDiff, Nat.zero_add, ↓z_drw_binOp, ↓z_or_binOp, ↓z_binOp, ↓z_bn_shr, ↓z_exD_and, ↓z_rd_const, ↓evW_const, ↓constW_int, inR_i64, Int.reduceNeg, Int.reduceLE, and_self, ↓z_bn_sub, ↓wrW_i64, true_and, ↓z_bn_shl, ↓z_bn_or, ↓z_drw_assign, ↓z_or_assign, ↓z_assign, ↓z_drw_nil, ↓z_seq_nrm, ↓z_ret, ↓z_end_rt, resLW, res1W, ↓z_envF_cons, ↓z_envF_nil, ↓z_coeL_cons, ↓z_coeL_nil, ↓z_pack1, ↓z_coe_int, D.int.injEq]); (try simp only [Int.toNat_natCast, Nat.mul_one, Bool.or_false, Bool.false_or, Bool.or_self, Bool.or_true])
  have e : (32 : Int) - (n : Int) = ((32 - n : Nat) : Int) := by omega
  rw [e, u32_shl _ _ (by omega), u32_shr _ _ (by omega), u32_or]
  exact ⟨by omega, by omega, by omega, rfl⟩
set_option maxRecDepth 100000 in
set_option maxHeartbeats 8000000 in
theorem fn_mix (G : Glob) (x i j k : Nat) (hi0 : 0 < i) (hi : i < 32) (hj0 : 0 < j) (hj : j < 32) (hk0 : 0 < k) (hk : k < 32) :
    Fn G Tryd.prog 58 [.int .u32 (x : Int), .int .i64 (i : Int), .int .i64 (j : Int), .int .i64 (k : Int)] (.int .u32 ((mx x i j k : Nat) : Int)) := by
  refine Fn.mk (c := _) Tryd.func58 rfl rfl Tryd.ntmps58 Tryd.results58 ?_
  have z : ∀ n : Nat, (0 : Int) - (n : Int) = -(n : Int) := fun n => by omega
  (simp -dsimp only [bodyW, List.length_cons, List.length_nil, Nat.zero_add, Nat.reduceAdd, Nat.reduceLeDiff, wfL, ↓z_seq, ↓z_region, ↓z_ops_plain, ↓z_assign, ↓evW_const, ↓constW_int, inR_u32, Int.reduceLE, and_self, ↓z_put, Nat.reduceLT, ↓z_ops_nil, ↓z_seq_nrm, ↓z_move, ↓evW_tmp, ↓lkW_cons, reduceCtorEq, ↓reduceIte, ↓z_lk_env, Nat.reduceEqDiff, ↓z_unOp, ↓z_un_neg, ↓wrW_i64, inR_i64, Int.reduceNeg, ↓z_callv, ↓evW_func, ↓z_evL_cons, ↓z_evL_nil, ↓z_fun0, ↓z_coeL_cons, ↓z_coe_int, ↓z_coeL_nil, true_and])
  intro _ _ _ _
  refine ⟨by omega, call_fn ((fn_Rot G x i hi0 hi).inp (by rw [z])) fun _ => ?_⟩
  (simp -dsimp only [↓z_put, Nat.reduceLT, ↓z_ops_plain, ↓z_move, ↓evW_tmp, ↓lkW_cons, reduceCtorEq, ↓reduceIte, ↓z_lk_env, Nat.reduceEqDiff, Nat.zero_add, Nat.reduceAdd, ↓z_unOp, ↓z_un_neg, ↓wrW_i64, inR_i64, Int.reduceNeg, ↓z_callv, ↓evW_func, ↓z_evL_cons, ↓z_evL_nil, ↓z_fun0, ↓z_coeL_cons, ↓z_coe_int, ↓z_coeL_nil, true_and])
  refine ⟨by omega, call_fn ((fn_Rot G x j hj0 hj).inp (by rw [z])) fun _ => ?_⟩
  (simp -dsimp only [↓z_put, Nat.reduceLT, ↓z_ops_plain, ↓z_binOp, ↓evW_tmp, ↓lkW_cons, Nat.reduceEqDiff, ↓reduceIte, ↓z_bn_xor, ↓z_move, reduceCtorEq, ↓z_lk_env, Nat.zero_add, Nat.reduceAdd, ↓z_unOp, ↓z_un_neg, ↓wrW_i64, inR_i64, Int.reduceNeg, ↓z_callv, ↓evW_func, ↓z_evL_cons, ↓z_evL_nil, ↓z_fun0, ↓z_coeL_cons, ↓z_coe_int, ↓z_coeL_nil, true_and])
  refine ⟨by omega, call_fn ((fn_Rot G x k hk0 hk).inp (by rw [z])) fun _ => ?_⟩
  (simp -dsimp only [↓z_put, Nat.reduceLT, ↓z_ops_plain, ↓z_binOp, ↓evW_tmp, ↓lkW_cons, Nat.reduceEqDiff, ↓reduceIte, ↓z_bn_xor, ↓z_assign, ↓z_ops_nil, ↓z_seq_nrm, ↓z_ret, ↓z_end_rt, resLW, res1W, u32_xor, ↓z_envF_cons, Nat.zero_add, Nat.reduceAdd, ↓z_envF_nil, ↓z_coeL_cons, ↓z_coeL_nil, ↓z_pack1, ↓z_coe_int, D.int.injEq, true_and]); (try simp only [Int.toNat_natCast, Nat.mul_one, Bool.or_false, Bool.false_or, Bool.or_self, Bool.or_true])
  rfl
end Go.Abs

