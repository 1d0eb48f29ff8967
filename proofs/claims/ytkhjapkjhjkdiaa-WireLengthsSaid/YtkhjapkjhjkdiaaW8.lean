/-
  WIRE, eighth walks: lists compared.
-/
import Derived.Test.YtkhjapkjhjkdiaaW7
namespace Go.Abs
open Go.Proofs

theorem take_eq_all {α : Type} {a b : List α} (hl : a.length = b.length) {i : Nat} (hi : a.length ≤ i) (h : a.take i = b.take i) : a = b := by
  rwa [List.take_of_length_le hi, List.take_of_length_le (by omega)] at h
theorem take_succ_eq {α : Type} {a b : List α} {i : Nat} (ha : i < a.length) (hb : i < b.length) (h : a.take i = b.take i) (he : a[i] = b[i]) : a.take (i + 1) = b.take (i + 1) := by
  have e1 : a.take (i + 1) = a.take i ++ [a[i]] := by simp
  have e2 : b.take (i + 1) = b.take i ++ [b[i]] := by simp
  rw [e1, e2, h, he]

set_option maxRecDepth 100000 in
set_option maxHeartbeats 8000000 in
theorem fn_SameInts_sl (G : Glob) (a b : List Int) : Fn G Try.prog 30 [.sl 1 a.length (a.map (D.int .i64)), .sl 1 b.length (b.map (D.int .i64))] (.bool (decide (a = b))) := by
  refine Fn.mk (c := _) Try.func30 rfl rfl Try.ntmps30 Try.results30 ?_
  (simp -dsimp only [bodyW, List.length_cons, List.length_nil, Nat.zero_add, Nat.reduceAdd, Nat.reduceLeDiff, wfL, ↓z_seq, ↓z_region, ↓z_ops_plain, ↓z_assign, ↓evW_const, ↓constW_bool, ↓z_put, Nat.reduceLT, ↓z_ops_nil, ↓z_seq_nrm, ↓z_move, ↓evW_tmp, ↓lkW_cons, reduceCtorEq, ↓reduceIte, ↓z_lk_env, ↓z_callb, ↓z_evL_cons, ↓z_evL_nil, ↓z_len, ↓y_ty22, ↓z_ln_sl, Nat.reduceEqDiff, ↓z_binOp, ↓z_bn_neq, ↓z_cond, ↓z_cnd, ↓z_gdt, ne_eq, ↓z_ret, ↓z_seq_rt, ↓z_end_rt, resLW, res1W, ↓z_coeL_cons, ↓z_coeL_nil, ↓z_pack1, ↓z_coe_bool, D.bool.injEq, true_and, ↓z_skip, ↓constW_int, inR_i64, Int.reduceNeg, Int.reduceLE, and_self, ↓z_block, ↓z_loop, z_ite, Classical.not_not])
  intro ha hb
  have ha' : a.length ≤ 9223372036854775807 := ha.1.1
  refine ⟨fun h => ?_, fun h => hold_intro ⟨[], Nat, fun i => ⟨26, 0, [(0, .sl 1 a.length (a.map (D.int .i64))), (1, .sl 1 b.length (b.map (D.int .i64))), (5, .int .i64 i)], []⟩, fun i => i ≤ a.length ∧ a.take i = b.take i, fun i => a.length - i, ?_, ?_⟩⟩
  · have : a ≠ b := fun e => h (by rw [e])
    simp [this]
  · (simp -dsimp only [↓z_ad_nil, ↓z_wk, ↓z_wkE_cons, ↓lkW_cons, reduceCtorEq, ↓reduceIte, ↓z_lk_env, Nat.reduceEqDiff, Nat.zero_add, D.int.injEq, true_and, ↓z_wkE_nil, and_true, ↓z_wkO_nil]); (try simp only [Int.toNat_natCast, Nat.mul_one, Bool.or_false, Bool.false_or, Bool.or_self, Bool.or_true])
    exact ⟨0, by simp, rfl⟩
  · rintro i ⟨hi, he⟩
    (simp -dsimp only [↓z_seq, ↓z_region, ↓z_ops_plain, ↓z_move, ↓evW_tmp, ↓lkW_cons, reduceCtorEq, ↓reduceIte, Nat.reduceEqDiff, ↓z_put, Nat.reduceLT, ↓z_callb, ↓z_evL_cons, ↓z_evL_nil, ↓z_len, ↓y_ty22, ↓z_ln_sl, ↓z_binOp, ↓z_bn_lss, ↓z_ops_nil, ↓z_seq_nrm, ↓z_cond, ↓z_cnd, ↓z_gdt, ↓z_skip, ↓z_block, ↓z_region_d, ↓y_mix, true_and, ↓z_exit, ↓z_seq_ext, ↓z_lp_ext, ↓z_blk_ext, ↓z_assign, ↓evW_const, ↓constW_bool, ↓z_ret, ↓z_end_rt, resLW, res1W, ↓z_coeL_cons, ↓z_coeL_nil, ↓z_pack1, ↓z_coe_bool, D.bool.injEq, z_ite])
    have hlen : a.length = b.length := by omega
    refine ⟨fun hlt => rgn_q (by decide +kernel) rfl ?_, fun hge => ?_⟩
    · (simp -dsimp only [↓z_ops_plain, ↓z_move, ↓evW_tmp, ↓lkW_cons, reduceCtorEq, ↓reduceIte, ↓z_put, Nat.reduceLT, Nat.reduceEqDiff, ↓z_indexAddr, ↓y_ty22, ↓z_elTy_sl, ↓y_sz3, ↓z_ix_sl, ↓z_load, ↓y_ty3, ↓z_agTy_int, ↓loadW_rop, ↓z_rd_f, ↓z_nth_int, ↓z_binOp, ↓z_bn_neq, ↓z_ops_nil, ↓z_seq_nrm, ↓z_cond, ↓z_cnd, ↓z_gdt, Nat.mul_one, ne_eq, ↓z_seq, ↓z_region, ↓z_assign, ↓evW_const, ↓constW_bool, ↓z_ret, ↓z_blk_rt, ↓z_seq_rt, ↓z_lp_rt, ↓z_end_rt, resLW, res1W, ↓z_coeL_cons, ↓z_coeL_nil, ↓z_pack1, ↓z_coe_bool, D.bool.injEq, true_and, ↓z_skip, ↓z_blk_nrm, ↓constW_int, inR_i64, Int.reduceNeg, Int.reduceLE, and_self, ↓z_bn_add, ↓wrW_i64, ↓z_lp_nrm, ↓z_wk, ↓z_wkE_cons, D.int.injEq, ↓z_wkE_nil, and_true, ↓z_wkO_nil, z_ite, Classical.not_not]); (try simp only [Int.toNat_natCast])
      refine ⟨by omega, by omega, by omega, by omega, by omega, by omega, fun hne => ?_, fun heq => ⟨by omega, i + 1, ⟨by omega, take_succ_eq (by omega) (by omega) he heq⟩, by omega, by omega⟩⟩
      have : a ≠ b := fun e => hne (by subst e; rfl)
      simp [this]
    · have : a = b := take_eq_all hlen (by omega) he
      simp [this]

set_option maxRecDepth 100000 in
set_option maxHeartbeats 8000000 in
theorem fn_SameInts_slx (G : Glob) (a b : List Int) : Fn G Try.prog 30 [.sl 1 a.length (a.map (D.int .i64)), .slx 1 b.length (b.map (D.int .i64))] (.bool (decide (a = b))) := by
  refine Fn.mk (c := _) Try.func30 rfl rfl Try.ntmps30 Try.results30 ?_
  (simp -dsimp only [bodyW, List.length_cons, List.length_nil, Nat.zero_add, Nat.reduceAdd, Nat.reduceLeDiff, wfL, ↓z_seq, ↓z_region, ↓z_ops_plain, ↓z_assign, ↓evW_const, ↓constW_bool, ↓z_put, Nat.reduceLT, ↓z_ops_nil, ↓z_seq_nrm, ↓z_move, ↓evW_tmp, ↓lkW_cons, reduceCtorEq, ↓reduceIte, ↓z_lk_env, ↓z_callb, ↓z_evL_cons, ↓z_evL_nil, ↓z_len, ↓y_ty22, ↓z_ln_sl, Nat.reduceEqDiff, ↓z_ln_slx, ↓z_binOp, ↓z_bn_neq, ↓z_cond, ↓z_cnd, ↓z_gdt, ne_eq, ↓z_ret, ↓z_seq_rt, ↓z_end_rt, resLW, res1W, ↓z_coeL_cons, ↓z_coeL_nil, ↓z_pack1, ↓z_coe_bool, D.bool.injEq, true_and, ↓z_skip, ↓constW_int, inR_i64, Int.reduceNeg, Int.reduceLE, and_self, ↓z_block, ↓z_loop, z_ite, Classical.not_not])
  intro ha hb
  have ha' : a.length ≤ 9223372036854775807 := ha.1.1
  refine ⟨fun h => ?_, fun h => hold_intro ⟨[], Nat, fun i => ⟨26, 0, [(0, .sl 1 a.length (a.map (D.int .i64))), (1, .slx 1 b.length (b.map (D.int .i64))), (5, .int .i64 i)], []⟩, fun i => i ≤ a.length ∧ a.take i = b.take i, fun i => a.length - i, ?_, ?_⟩⟩
  · have : a ≠ b := fun e => h (by rw [e])
    simp [this]
  · (simp -dsimp only [↓z_ad_nil, ↓z_wk, ↓z_wkE_cons, ↓lkW_cons, reduceCtorEq, ↓reduceIte, ↓z_lk_env, Nat.reduceEqDiff, Nat.zero_add, D.int.injEq, true_and, ↓z_wkE_nil, and_true, ↓z_wkO_nil]); (try simp only [Int.toNat_natCast, Nat.mul_one, Bool.or_false, Bool.false_or, Bool.or_self, Bool.or_true])
    exact ⟨0, by simp, rfl⟩
  · rintro i ⟨hi, he⟩
    (simp -dsimp only [↓z_seq, ↓z_region, ↓z_ops_plain, ↓z_move, ↓evW_tmp, ↓lkW_cons, reduceCtorEq, ↓reduceIte, Nat.reduceEqDiff, ↓z_put, Nat.reduceLT, ↓z_callb, ↓z_evL_cons, ↓z_evL_nil, ↓z_len, ↓y_ty22, ↓z_ln_sl, ↓z_binOp, ↓z_bn_lss, ↓z_ops_nil, ↓z_seq_nrm, ↓z_cond, ↓z_cnd, ↓z_gdt, ↓z_skip, ↓z_block, ↓z_region_d, ↓y_mix, true_and, ↓z_exit, ↓z_seq_ext, ↓z_lp_ext, ↓z_blk_ext, ↓z_assign, ↓evW_const, ↓constW_bool, ↓z_ret, ↓z_end_rt, resLW, res1W, ↓z_coeL_cons, ↓z_coeL_nil, ↓z_pack1, ↓z_coe_bool, D.bool.injEq, z_ite])
    have hlen : a.length = b.length := by omega
    refine ⟨fun hlt => rgn_q (by decide +kernel) rfl ?_, fun hge => ?_⟩
    · (simp -dsimp only [↓z_ops_plain, ↓z_move, ↓evW_tmp, ↓lkW_cons, reduceCtorEq, ↓reduceIte, ↓z_put, Nat.reduceLT, Nat.reduceEqDiff, ↓z_indexAddr, ↓y_ty22, ↓z_elTy_sl, ↓y_sz3, ↓z_ix_sl, ↓z_load, ↓y_ty3, ↓z_agTy_int, ↓loadW_rop, ↓z_rd_f, ↓z_nth_int, ↓z_ix_slx, ↓z_binOp, ↓z_bn_neq, ↓z_ops_nil, ↓z_seq_nrm, ↓z_cond, ↓z_cnd, ↓z_gdt, Nat.mul_one, ne_eq, ↓z_seq, ↓z_region, ↓z_assign, ↓evW_const, ↓constW_bool, ↓z_ret, ↓z_blk_rt, ↓z_seq_rt, ↓z_lp_rt, ↓z_end_rt, resLW, res1W, ↓z_coeL_cons, ↓z_coeL_nil, ↓z_pack1, ↓z_coe_bool, D.bool.injEq, true_and, ↓z_skip, ↓z_blk_nrm, ↓constW_int, inR_i64, Int.reduceNeg, Int.reduceLE, and_self, ↓z_bn_add, ↓wrW_i64, ↓z_lp_nrm, ↓z_wk, ↓z_wkE_cons, D.int.injEq, ↓z_wkE_nil, and_true, ↓z_wkO_nil, z_ite, Classical.not_not]); (try simp only [Int.toNat_natCast])
      refine ⟨by omega, by omega, by omega, by omega, by omega, by omega, fun hne => ?_, fun heq => ⟨by omega, i + 1, ⟨by omega, take_succ_eq (by omega) (by omega) he heq⟩, by omega, by omega⟩⟩
      have : a ≠ b := fun e => hne (by subst e; rfl)
      simp [this]
    · have : a = b := take_eq_all hlen (by omega) he
      simp [this]

set_option maxRecDepth 100000 in
set_option maxHeartbeats 8000000 in
theorem fn_SameInts_nils (G : Glob) : Fn G Try.prog 30 [.nils, .nils] (.bool true) := by
  refine Fn.mk (c := _) Try.func30 rfl rfl Try.ntmps30 Try.results30 ?_
  (simp -dsimp only [bodyW, List.length_cons, List.length_nil, Nat.zero_add, Nat.reduceAdd, Nat.reduceLeDiff, wfL, ↓z_seq, ↓z_region, ↓z_ops_plain, ↓z_assign, ↓evW_const, ↓constW_bool, ↓z_put, Nat.reduceLT, ↓z_ops_nil, ↓z_seq_nrm, ↓z_move, ↓evW_tmp, ↓lkW_cons, reduceCtorEq, ↓reduceIte, ↓z_lk_env, ↓z_callb, ↓z_evL_cons, ↓z_evL_nil, ↓z_len, ↓y_ty22, ↓z_ln_nils, Nat.reduceEqDiff, ↓z_binOp, ↓z_bn_neq, ↓z_cond, ↓z_cnd, ↓z_gdt, ne_eq, not_true_eq_false, ↓z_skip, ↓constW_int, inR_i64, Int.reduceNeg, Int.reduceLE, and_self, ↓z_block, ↓z_loop, true_and])
  intro _ _
  refine hold_intro ⟨[], Unit, fun _ => ⟨26, 0, [(0, .nils), (1, .nils), (5, .int .i64 0)], []⟩, fun _ => True, fun _ => 0, ?_, ?_⟩
  · (simp -dsimp only [↓z_ad_nil, ↓z_wk, ↓z_wkE_cons, ↓lkW_cons, reduceCtorEq, ↓reduceIte, ↓z_lk_env, Nat.reduceEqDiff, Nat.zero_add, ↓z_wkE_nil, and_self, ↓z_wkO_nil]); (try simp only [Int.toNat_natCast, Nat.mul_one, Bool.or_false, Bool.false_or, Bool.or_self, Bool.or_true])
    exact ⟨(), trivial⟩
  · rintro _ _
    (simp -dsimp only [↓z_seq, ↓z_region, ↓z_ops_plain, ↓z_move, ↓evW_tmp, ↓lkW_cons, reduceCtorEq, ↓reduceIte, Nat.reduceEqDiff, ↓z_put, Nat.reduceLT, ↓z_callb, ↓z_evL_cons, ↓z_evL_nil, ↓z_len, ↓y_ty22, ↓z_ln_nils, ↓z_binOp, ↓z_bn_lss, ↓z_ops_nil, ↓z_seq_nrm, ↓z_cond, ↓z_cnd, ↓z_gdt, Int.reduceLT, ↓z_exit, ↓z_seq_ext, ↓z_lp_ext, ↓z_blk_ext, ↓z_assign, ↓evW_const, ↓constW_bool, ↓z_ret, ↓z_end_rt, resLW, res1W, ↓z_coeL_cons, ↓z_coeL_nil, ↓z_pack1, ↓z_coe_bool, and_self]); (try simp only [Int.toNat_natCast, Nat.mul_one, Bool.or_false, Bool.false_or, Bool.or_self, Bool.or_true])

set_option maxRecDepth 100000 in
set_option maxHeartbeats 8000000 in
theorem fn_SameTexts_sl (G : Glob) (a b : List (List UInt8)) : Fn G Try.prog 33 [.sl 1 a.length (a.map (D.str)), .sl 1 b.length (b.map (D.str))] (.bool (decide (a = b))) := by
  refine Fn.mk (c := _) Try.func33 rfl rfl Try.ntmps33 Try.results33 ?_
  (simp -dsimp only [bodyW, List.length_cons, List.length_nil, Nat.zero_add, Nat.reduceAdd, Nat.reduceLeDiff, wfL, ↓z_seq, ↓z_region, ↓z_ops_plain, ↓z_assign, ↓evW_const, ↓constW_bool, ↓z_put, Nat.reduceLT, ↓z_ops_nil, ↓z_seq_nrm, ↓z_move, ↓evW_tmp, ↓lkW_cons, reduceCtorEq, ↓reduceIte, ↓z_lk_env, ↓z_callb, ↓z_evL_cons, ↓z_evL_nil, ↓z_len, ↓y_ty23, ↓z_ln_sl, Nat.reduceEqDiff, ↓z_binOp, ↓z_bn_neq, ↓z_cond, ↓z_cnd, ↓z_gdt, ne_eq, ↓z_ret, ↓z_seq_rt, ↓z_end_rt, resLW, res1W, ↓z_coeL_cons, ↓z_coeL_nil, ↓z_pack1, ↓z_coe_bool, D.bool.injEq, true_and, ↓z_skip, ↓constW_int, inR_i64, Int.reduceNeg, Int.reduceLE, and_self, ↓z_block, ↓z_loop, z_ite, Classical.not_not])
  intro ha hb
  have ha' : a.length ≤ 9223372036854775807 := ha.1.1
  refine ⟨fun h => ?_, fun h => hold_intro ⟨[], Nat, fun i => ⟨26, 0, [(0, .sl 1 a.length (a.map (D.str))), (1, .sl 1 b.length (b.map (D.str))), (5, .int .i64 i)], []⟩, fun i => i ≤ a.length ∧ a.take i = b.take i, fun i => a.length - i, ?_, ?_⟩⟩
  · have : a ≠ b := fun e => h (by rw [e])
    simp [this]
  · (simp -dsimp only [↓z_ad_nil, ↓z_wk, ↓z_wkE_cons, ↓lkW_cons, reduceCtorEq, ↓reduceIte, ↓z_lk_env, Nat.reduceEqDiff, Nat.zero_add, D.int.injEq, true_and, ↓z_wkE_nil, and_true, ↓z_wkO_nil]); (try simp only [Int.toNat_natCast, Nat.mul_one, Bool.or_false, Bool.false_or, Bool.or_self, Bool.or_true])
    exact ⟨0, by simp, rfl⟩
  · rintro i ⟨hi, he⟩
    (simp -dsimp only [↓z_seq, ↓z_region, ↓z_ops_plain, ↓z_move, ↓evW_tmp, ↓lkW_cons, reduceCtorEq, ↓reduceIte, Nat.reduceEqDiff, ↓z_put, Nat.reduceLT, ↓z_callb, ↓z_evL_cons, ↓z_evL_nil, ↓z_len, ↓y_ty23, ↓z_ln_sl, ↓z_binOp, ↓z_bn_lss, ↓z_ops_nil, ↓z_seq_nrm, ↓z_cond, ↓z_cnd, ↓z_gdt, ↓z_skip, ↓z_block, ↓z_region_d, ↓y_mix, true_and, ↓z_exit, ↓z_seq_ext, ↓z_lp_ext, ↓z_blk_ext, ↓z_assign, ↓evW_const, ↓constW_bool, ↓z_ret, ↓z_end_rt, resLW, res1W, ↓z_coeL_cons, ↓z_coeL_nil, ↓z_pack1, ↓z_coe_bool, D.bool.injEq, z_ite])
    have hlen : a.length = b.length := by omega
    refine ⟨fun hlt => rgn_q (by decide +kernel) rfl ?_, fun hge => ?_⟩
    · (simp -dsimp only [↓z_ops_plain, ↓z_move, ↓evW_tmp, ↓lkW_cons, reduceCtorEq, ↓reduceIte, ↓z_put, Nat.reduceLT, Nat.reduceEqDiff, ↓z_indexAddr, ↓y_ty23, ↓z_elTy_sl, ↓y_sz9, ↓z_ix_sl, ↓z_load, ↓y_ty9, ↓z_agTy_str, ↓loadW_rop, ↓z_rd_f, ↓z_nth_str, ↓z_binOp, ↓z_bn_sneq, ↓z_ops_nil, ↓z_seq_nrm, ↓z_cond, ↓z_cnd, ↓z_gdt, Nat.mul_one, ne_eq, ↓z_seq, ↓z_region, ↓z_assign, ↓evW_const, ↓constW_bool, ↓z_ret, ↓z_blk_rt, ↓z_seq_rt, ↓z_lp_rt, ↓z_end_rt, resLW, res1W, ↓z_coeL_cons, ↓z_coeL_nil, ↓z_pack1, ↓z_coe_bool, D.bool.injEq, true_and, ↓z_skip, ↓z_blk_nrm, ↓constW_int, inR_i64, Int.reduceNeg, Int.reduceLE, and_self, ↓z_bn_add, ↓wrW_i64, ↓z_lp_nrm, ↓z_wk, ↓z_wkE_cons, D.int.injEq, ↓z_wkE_nil, and_true, ↓z_wkO_nil, z_ite, Classical.not_not]); (try simp only [Int.toNat_natCast])
      refine ⟨by omega, by omega, by omega, by omega, by omega, by omega, fun hne => ?_, fun heq => ⟨by omega, i + 1, ⟨by omega, take_succ_eq (by omega) (by omega) he heq⟩, by omega, by omega⟩⟩
      have : a ≠ b := fun e => hne (by subst e; rfl)
      simp [this]
    · have : a = b := take_eq_all hlen (by omega) he
      simp [this]

set_option maxRecDepth 100000 in
set_option maxHeartbeats 8000000 in
theorem fn_SameTexts_slx (G : Glob) (a b : List (List UInt8)) : Fn G Try.prog 33 [.sl 1 a.length (a.map (D.str)), .slx 1 b.length (b.map (D.str))] (.bool (decide (a = b))) := by
  refine Fn.mk (c := _) Try.func33 rfl rfl Try.ntmps33 Try.results33 ?_
  (simp -dsimp only [bodyW, List.length_cons, List.length_nil, Nat.zero_add, Nat.reduceAdd, Nat.reduceLeDiff, wfL, ↓z_seq, ↓z_region, ↓z_ops_plain, ↓z_assign, ↓evW_const, ↓constW_bool, ↓z_put, Nat.reduceLT, ↓z_ops_nil, ↓z_seq_nrm, ↓z_move, ↓evW_tmp, ↓lkW_cons, reduceCtorEq, ↓reduceIte, ↓z_lk_env, ↓z_callb, ↓z_evL_cons, ↓z_evL_nil, ↓z_len, ↓y_ty23, ↓z_ln_sl, Nat.reduceEqDiff, ↓z_ln_slx, ↓z_binOp, ↓z_bn_neq, ↓z_cond, ↓z_cnd, ↓z_gdt, ne_eq, ↓z_ret, ↓z_seq_rt, ↓z_end_rt, resLW, res1W, ↓z_coeL_cons, ↓z_coeL_nil, ↓z_pack1, ↓z_coe_bool, D.bool.injEq, true_and, ↓z_skip, ↓constW_int, inR_i64, Int.reduceNeg, Int.reduceLE, and_self, ↓z_block, ↓z_loop, z_ite, Classical.not_not])
  intro ha hb
  have ha' : a.length ≤ 9223372036854775807 := ha.1.1
  refine ⟨fun h => ?_, fun h => hold_intro ⟨[], Nat, fun i => ⟨26, 0, [(0, .sl 1 a.length (a.map (D.str))), (1, .slx 1 b.length (b.map (D.str))), (5, .int .i64 i)], []⟩, fun i => i ≤ a.length ∧ a.take i = b.take i, fun i => a.length - i, ?_, ?_⟩⟩
  · have : a ≠ b := fun e => h (by rw [e])
    simp [this]
  · (simp -dsimp only [↓z_ad_nil, ↓z_wk, ↓z_wkE_cons, ↓lkW_cons, reduceCtorEq, ↓reduceIte, ↓z_lk_env, Nat.reduceEqDiff, Nat.zero_add, D.int.injEq, true_and, ↓z_wkE_nil, and_true, ↓z_wkO_nil]); (try simp only [Int.toNat_natCast, Nat.mul_one, Bool.or_false, Bool.false_or, Bool.or_self, Bool.or_true])
    exact ⟨0, by simp, rfl⟩
  · rintro i ⟨hi, he⟩
    (simp -dsimp only [↓z_seq, ↓z_region, ↓z_ops_plain, ↓z_move, ↓evW_tmp, ↓lkW_cons, reduceCtorEq, ↓reduceIte, Nat.reduceEqDiff, ↓z_put, Nat.reduceLT, ↓z_callb, ↓z_evL_cons, ↓z_evL_nil, ↓z_len, ↓y_ty23, ↓z_ln_sl, ↓z_binOp, ↓z_bn_lss, ↓z_ops_nil, ↓z_seq_nrm, ↓z_cond, ↓z_cnd, ↓z_gdt, ↓z_skip, ↓z_block, ↓z_region_d, ↓y_mix, true_and, ↓z_exit, ↓z_seq_ext, ↓z_lp_ext, ↓z_blk_ext, ↓z_assign, ↓evW_const, ↓constW_bool, ↓z_ret, ↓z_end_rt, resLW, res1W, ↓z_coeL_cons, ↓z_coeL_nil, ↓z_pack1, ↓z_coe_bool, D.bool.injEq, z_ite])
    have hlen : a.length = b.length := by omega
    refine ⟨fun hlt => rgn_q (by decide +kernel) rfl ?_, fun hge => ?_⟩
    · (simp -dsimp only [↓z_ops_plain, ↓z_move, ↓evW_tmp, ↓lkW_cons, reduceCtorEq, ↓reduceIte, ↓z_put, Nat.reduceLT, Nat.reduceEqDiff, ↓z_indexAddr, ↓y_ty23, ↓z_elTy_sl, ↓y_sz9, ↓z_ix_sl, ↓z_load, ↓y_ty9, ↓z_agTy_str, ↓loadW_rop, ↓z_rd_f, ↓z_nth_str, ↓z_ix_slx, ↓z_binOp, ↓z_bn_sneq, ↓z_ops_nil, ↓z_seq_nrm, ↓z_cond, ↓z_cnd, ↓z_gdt, Nat.mul_one, ne_eq, ↓z_seq, ↓z_region, ↓z_assign, ↓evW_const, ↓constW_bool, ↓z_ret, ↓z_blk_rt, ↓z_seq_rt, ↓z_lp_rt, ↓z_end_rt, resLW, res1W, ↓z_coeL_cons, ↓z_coeL_nil, ↓z_pack1, ↓z_coe_bool, D.bool.injEq, true_and, ↓z_skip, ↓z_blk_nrm, ↓constW_int, inR_i64, Int.reduceNeg, Int.reduceLE, and_self, ↓z_bn_add, ↓wrW_i64, ↓z_lp_nrm, ↓z_wk, ↓z_wkE_cons, D.int.injEq, ↓z_wkE_nil, and_true, ↓z_wkO_nil, z_ite, Classical.not_not]); (try simp only [Int.toNat_natCast])
      refine ⟨by omega, by omega, by omega, by omega, by omega, by omega, fun hne => ?_, fun heq => ⟨by omega, i + 1, ⟨by omega, take_succ_eq (by omega) (by omega) he heq⟩, by omega, by omega⟩⟩
      have : a ≠ b := fun e => hne (by subst e; rfl)
      simp [this]
    · have : a = b := take_eq_all hlen (by omega) he
      simp [this]

set_option maxRecDepth 100000 in
set_option maxHeartbeats 8000000 in
theorem fn_SameTexts_nils (G : Glob) : Fn G Try.prog 33 [.nils, .nils] (.bool true) := by
  refine Fn.mk (c := _) Try.func33 rfl rfl Try.ntmps33 Try.results33 ?_
  (simp -dsimp only [bodyW, List.length_cons, List.length_nil, Nat.zero_add, Nat.reduceAdd, Nat.reduceLeDiff, wfL, ↓z_seq, ↓z_region, ↓z_ops_plain, ↓z_assign, ↓evW_const, ↓constW_bool, ↓z_put, Nat.reduceLT, ↓z_ops_nil, ↓z_seq_nrm, ↓z_move, ↓evW_tmp, ↓lkW_cons, reduceCtorEq, ↓reduceIte, ↓z_lk_env, ↓z_callb, ↓z_evL_cons, ↓z_evL_nil, ↓z_len, ↓y_ty23, ↓z_ln_nils, Nat.reduceEqDiff, ↓z_binOp, ↓z_bn_neq, ↓z_cond, ↓z_cnd, ↓z_gdt, ne_eq, not_true_eq_false, ↓z_skip, ↓constW_int, inR_i64, Int.reduceNeg, Int.reduceLE, and_self, ↓z_block, ↓z_loop, true_and])
  intro _ _
  refine hold_intro ⟨[], Unit, fun _ => ⟨26, 0, [(0, .nils), (1, .nils), (5, .int .i64 0)], []⟩, fun _ => True, fun _ => 0, ?_, ?_⟩
  · (simp -dsimp only [↓z_ad_nil, ↓z_wk, ↓z_wkE_cons, ↓lkW_cons, reduceCtorEq, ↓reduceIte, ↓z_lk_env, Nat.reduceEqDiff, Nat.zero_add, ↓z_wkE_nil, and_self, ↓z_wkO_nil]); (try simp only [Int.toNat_natCast, Nat.mul_one, Bool.or_false, Bool.false_or, Bool.or_self, Bool.or_true])
    exact ⟨(), trivial⟩
  · rintro _ _
    (simp -dsimp only [↓z_seq, ↓z_region, ↓z_ops_plain, ↓z_move, ↓evW_tmp, ↓lkW_cons, reduceCtorEq, ↓reduceIte, Nat.reduceEqDiff, ↓z_put, Nat.reduceLT, ↓z_callb, ↓z_evL_cons, ↓z_evL_nil, ↓z_len, ↓y_ty23, ↓z_ln_nils, ↓z_binOp, ↓z_bn_lss, ↓z_ops_nil, ↓z_seq_nrm, ↓z_cond, ↓z_cnd, ↓z_gdt, Int.reduceLT, ↓z_exit, ↓z_seq_ext, ↓z_lp_ext, ↓z_blk_ext, ↓z_assign, ↓evW_const, ↓constW_bool, ↓z_ret, ↓z_end_rt, resLW, res1W, ↓z_coeL_cons, ↓z_coeL_nil, ↓z_pack1, ↓z_coe_bool, and_self]); (try simp only [Int.toNat_natCast, Nat.mul_one, Bool.or_false, Bool.false_or, Bool.or_self, Bool.or_true])

end Go.Abs

