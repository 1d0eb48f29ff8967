/-
  EXTEND, fourth walks: counting, deciding.
-/
import Derived.Test.YtaakjjhifhjbfaaDoorE4
namespace Go.Abs
open Go.Proofs
theorem yesN_s {l : List Bl} {i : Nat} (h : i < l.length) : yesN (l.take (i + 1)) = yesN (l.take i) + flg l[i].y := by
  unfold yesN; rw [takeS h, List.map_append, List.sum_append]; simp
theorem flg_le (b : Bool) : 0 ≤ flg b ∧ flg b ≤ 1 := by unfold flg; split <;> omega
theorem yesN_le : ∀ l : List Bl, 0 ≤ yesN l ∧ yesN l ≤ l.length
  | [] => by simp [yesN]
  | x :: r => by
    have h1 := yesN_le r
    have h2 := flg_le x.y
    unfold yesN at *
    simp only [List.map_cons, List.sum_cons, List.length_cons]; omega
set_option maxRecDepth 100000 in
set_option maxHeartbeats 8000000 in
theorem fn_Count (G : Glob) (m : Pl) (hv : m.v.length ≤ 1000) : Fn G Tryd.prog 14 [.agg (plC m)] (.tup [.int .i64 (yesN m.v), .int .i64 (m.v.length - yesN m.v)]) := by
  unfold plC
  refine Fn.mk (c := _) Tryd.func14 rfl rfl Tryd.ntmps14 Tryd.results14 ?_
  (simp -dsimp only [bodyW, List.length_cons, List.length_nil, Nat.zero_add, Nat.reduceLeDiff, wfL, ↓z_seq, ↓z_region, ↓z_ops_plain, ↓z_box, ↓evW_tmp, ↓z_lk_env, ↓reduceIte, ↓z_cl_agg, ↓z_nmC_cons, ↓z_mn'_int, ↓z_mn'_sl, ↓z_nmC_nil, and_self, ↓z_new, ↓z_nm_nil, Nat.reduceLT, ↓z_pg_env, ↓z_mn_agg, ↓z_pg_env0, ↓z_put, ↓z_assign, ↓evW_const, ↓constW_int, inR_i64, Int.reduceNeg, Int.reduceLE, ↓z_ops_nil, ↓z_seq_nrm, ↓z_fieldAddr, ↓lkW_cons, Nat.reduceEqDiff, ↓y_fl34x4, ↓y_sz32, ne_eq, reduceCtorEq, not_false_eq_true, ↓z_fa_ptr, ↓z_load, ↓y_ty32, ↓z_agTy_sl, ↓loadW_ptr, ↓lkoW_cons, ↓z_rd_f, ↓nthW_cons, Nat.reduceSub, ↓z_callb, ↓z_evL_cons, ↓z_evL_nil, ↓z_len, ↓z_ln_sl, ↓z_move, ↓z_block, ↓z_loop, true_and])
  intro _
  refine hold_intro ⟨[], Nat, fun i => ⟨25, 1, [(9, .int .i64 i), (8, .int .i64 m.v.length), (7, .sl 19 m.v.length (List.flatMap blC m.v)), (2, .int .i64 (yesN (m.v.take i))), (1, .ptr 0 0)],
    [(0, [.int .i64 m.o, .int .i64 m.l, .int .i64 m.u, .int .i64 m.n, .sl 19 m.v.length (List.flatMap blC m.v)])]⟩, fun i => i ≤ m.v.length, fun i => m.v.length - i, ?_, ?_⟩
  · (simp -dsimp only [↓z_ad_nil, ↓z_wk, ↓z_wkE_cons, ↓lkW_cons, ↓reduceIte, D.int.injEq, true_and, Nat.reduceEqDiff, ↓z_wkE_nil, and_self, and_true, ↓z_wkO_cons, ↓lkoW_cons, ↓z_wkO_nil]); (try simp only [Int.toNat_natCast, Nat.mul_one, Bool.or_false, Bool.false_or, Bool.or_self, Bool.or_true])
    exact ⟨0, by simp [yesN]⟩
  intro i hi
  have hle := yesN_le (m.v.take i)
  rw [List.length_take] at hle
  by_cases h : i < m.v.length
  · have hsub := fun k => bl_sub1 h k
    have hl2 := bl_len m.v
    have hlt : ((i : Int) < m.v.length) = True := eq_true (by omega)
    have hs16 := m.v[i].hs
    have hys := yesN_s h
    have hf := flg_le m.v[i].y
    (simp -dsimp only [↓z_seq, ↓z_region, ↓z_ops_plain, ↓z_binOp, ↓evW_tmp, ↓lkW_cons, ↓reduceIte, Nat.reduceEqDiff, ↓z_bn_lss, ↓z_put, Nat.reduceLT, ↓z_ops_nil, ↓z_seq_nrm, ↓z_cond, ↓z_cnd, ↓z_gdt, hlt, ↓z_skip, ↓z_block, ↓z_indexAddr, ↓y_ty32, ↓z_elTy_sl, ↓y_sz41, ↓z_ix_sl, ↓z_load, ↓y_ty41, ↓z_agTy_st, ↓loadW_rop, ↓z_rd_t, hl2, ↓hsub, ↓z_alloc, ↓y_zr41, ↓z_new, ↓z_nm_cons, ↓z_nmC_cons, ↓z_mn'_int, ↓z_mn'_sl, ↓z_nmC_nil, and_self, ↓z_nm_nil, ↓z_pg_cons, ↓z_mn_agg, ↓z_mn_rop, ↓z_mn_bool, ↓z_mn_int, ↓z_mn_sl, ↓z_mn_ptr, reduceCtorEq, ↓z_pg_nil, ↓z_store, ↓z_cl_agg, List.length_cons, List.length_map, ↓z_store_ptr, ↓lkoW_cons, Nat.zero_add, List.length_nil, Nat.reduceAdd, Nat.reduceLeDiff, ↓spsW_cons, ↓drW_cons, Nat.reduceSub, ↓drW_nil, ↓z_cat_nil_r, ↓z_so_cons, ↓z_put_none, ↓z_move, ↓z_fieldAddr, ↓y_fl41x2, ↓y_sz4, ne_eq, not_false_eq_true, ↓z_fa_ptr, ↓y_ty4, ↓z_agTy_bool, ↓loadW_ptr, ↓z_rd_f, ↓nthW_cons, ↓z_callv, ↓evW_func, ↓z_evL_cons, ↓z_evL_nil, ↓z_fun0, ↓z_coeL_cons, ↓z_coe_bool, ↓z_coeL_nil, true_and]); (try simp only [Int.toNat_natCast])
    refine ⟨by omega, by omega, hs16, call_fnL (fn_flag G _) rfl fun _ => ?_⟩
    (simp -dsimp only [↓z_put, Nat.reduceLT, ↓z_ops_plain, ↓z_binOp, ↓evW_tmp, ↓lkW_cons, Nat.reduceEqDiff, ↓reduceIte, ↓z_bn_add, ↓wrW_i64, inR_i64, Int.reduceNeg, ↓z_assign, ↓z_ops_nil, ↓z_blk_nrm, ↓z_seq_nrm, ↓z_region, ↓evW_const, ↓constW_int, Int.reduceLE, and_self, ↓z_move, ↓z_lp_nrm, ↓z_wk, ↓z_wkE_cons, D.int.injEq, true_and, ↓z_wkE_nil, and_true, ↓z_wkO_cons, ↓lkoW_cons, reduceCtorEq, ↓z_wkO_nil]); (try simp only [Int.toNat_natCast, Nat.mul_one, Bool.or_false, Bool.false_or, Bool.or_self, Bool.or_true])
    refine ⟨by omega, by omega, i + 1, by omega, by omega, by omega, hys.symm⟩
  · have hlt : ((i : Int) < m.v.length) = False := eq_false (by omega)
    have e : i = m.v.length := by omega
    have e2 : m.v.take i = m.v := List.take_of_length_le (by omega)
    rw [e2] at hle
    (simp -dsimp only [↓z_seq, ↓z_region, ↓z_ops_plain, ↓z_binOp, ↓evW_tmp, ↓lkW_cons, ↓reduceIte, Nat.reduceEqDiff, ↓z_bn_lss, ↓z_put, Nat.reduceLT, ↓z_ops_nil, ↓z_seq_nrm, ↓z_cond, ↓z_cnd, ↓z_gdt, hlt, ↓z_exit, ↓z_seq_ext, ↓z_lp_ext, ↓z_blk_ext, ↓z_region_d, ↓y_mix, true_and])
    refine rgn_q (by decide +kernel) rfl ?_
    (simp -dsimp only [↓z_ops_plain, ↓z_move, ↓evW_tmp, ↓lkW_cons, Nat.reduceEqDiff, ↓reduceIte, ↓z_put, Nat.reduceLT, ↓z_fieldAddr, ↓y_fl34x4, ↓y_sz32, ne_eq, reduceCtorEq, not_false_eq_true, ↓z_fa_ptr, ↓z_load, ↓y_ty32, ↓z_agTy_sl, ↓loadW_ptr, ↓lkoW_cons, ↓z_rd_f, ↓nthW_cons, Nat.zero_add, Nat.reduceSub, ↓z_callb, ↓z_evL_cons, ↓z_evL_nil, ↓z_len, ↓z_ln_sl, ↓z_binOp, ↓z_bn_sub, ↓wrW_i64, e2, inR_i64, Int.reduceNeg, ↓z_assign, ↓z_ops_nil, ↓z_seq_nrm, ↓z_ret, ↓z_end_rt, resLW, res1W, hlt, ↓z_coeL_cons, ↓z_coeL_nil, ↓z_pack2, D.tup.injEq, List.cons.injEq, and_true, ↓z_coe_int, and_self, true_and]); (try simp only [Int.toNat_natCast, Nat.mul_one, Bool.or_false, Bool.false_or, Bool.or_self, Bool.or_true])
    omega
set_option maxRecDepth 100000 in
set_option maxHeartbeats 8000000 in
theorem fn_Decide (c : Cn) (m : Pl) (now : Int) (hv : m.v.length ≤ 1000) : Fn GH Tryd.prog 15 [.agg (cnC c), .agg (plC m), .int .i64 now] (.tup [.int .i64 (dcN c m now), .int .i64 (dcE c m now)]) := by
  have hC := fn_Check GH c
  have hR := fn_Right c m hv
  have hN := fn_Count GH m hv
  have hL := fn_last GH m hv
  unfold cnC plC at *
  refine Fn.mk (c := _) Tryd.func15 rfl rfl Tryd.ntmps15 Tryd.results15 ?_
  (simp -dsimp only [bodyW, List.length_cons, List.length_nil, Nat.zero_add, Nat.reduceAdd, Nat.reduceLeDiff, wfL, ↓z_seq, ↓z_region, ↓z_ops_plain, ↓z_box, ↓evW_tmp, ↓z_lk_env, ↓reduceIte, ↓z_cl_agg, ↓z_nmC_cons, ↓z_mn'_sl, ↓z_mn'_int, ↓z_nmC_nil, and_self, ↓z_new, ↓z_nm_nil, Nat.reduceLT, ↓z_pg_env, ↓z_mn_agg, ↓z_mn_int, ↓z_pg_env0, ↓z_put, ↓lkW_cons, Nat.reduceEqDiff, reduceCtorEq, ↓z_nm_cons, ↓z_pg_cons, ↓z_mn_ptr, ↓z_pg_nil, ↓z_assign, ↓evW_const, ↓constW_int, inR_i64, Int.reduceNeg, Int.reduceLE, ↓z_ops_nil, ↓z_seq_nrm, ↓z_load, ↓y_ty25, ↓y_sz25, ↓z_agTy_st, ↓loadW_ptr, ↓lkoW_cons, ↓z_rd_t, ↓z_sub_c, ↓z_sub_nil, ↓z_callv, ↓evW_func, ↓z_evL_cons, ↓z_evL_nil, ↓z_fun0, ↓z_coeL_cons, ↓z_coe_oag, ↓z_coeC_cons, ↓z_coeS_sl, ↓z_coeS_int, ↓z_coeC_nil, ↓z_coeL_nil, true_and])
  intro _ _ _
  refine call_fnL hC rfl fun _ => ?_
  (simp -dsimp only [↓z_put, Nat.reduceLT, ↓z_ops_plain, ↓z_assign, ↓evW_tmp, ↓lkW_cons, ↓reduceIte, ↓z_ops_nil, ↓z_seq_nrm, ↓z_seq, ↓z_region, ↓z_move, ↓z_binOp, ↓evW_const, ↓constW_int, inR_i64, Int.reduceNeg, Int.reduceLE, and_self, ↓z_bn_neq, ↓z_cond, ↓z_cnd, ↓z_gdt, ne_eq, Nat.reduceEqDiff, ↓z_ret, ↓z_seq_rt, ↓z_end_rt, resLW, res1W, Nat.zero_add, Nat.reduceAdd, ↓z_coeL_cons, ↓z_coeL_nil, ↓z_pack2, D.tup.injEq, List.cons.injEq, and_true, ↓z_coe_int, D.int.injEq, true_and, ↓z_skip, ↓z_load, ↓y_ty34, ↓y_sz34, ↓z_agTy_st, ↓loadW_ptr, ↓lkoW_cons, ↓z_rd_t, List.length_cons, List.length_nil, Nat.reduceLeDiff, ↓z_sub_c, ↓z_sub_nil, ↓z_callv, ↓evW_func, ↓z_evL_cons, ↓z_evL_nil, ↓z_fun0, ↓z_coe_oag, ↓z_coeC_cons, ↓z_coeS_int, ↓z_coeS_sl, ↓z_coeC_nil, z_ite, Classical.not_not])
  have no : dcE c m now ≠ 0 → dcN c m now = 0 := fun g => if_neg g
  refine ⟨fun c0 => ?_, fun c0 => ?_⟩
  · have hn : ¬ okC c := fun g => c0 (chkC_0.2 g)
    have e1 : dcE c m now = 1 := if_neg hn
    rw [no (by omega), e1, chkC_no hn]
    exact ⟨rfl, rfl⟩
  have hc : okC c := chkC_0.1 c0
  have e0 : dcE c m now = if rgtP c m then (if m.l < now then 18 else if now < lstT m then 15 else if yesN m.v < c.nd then 29 else 0) else 1 := if_pos hc
  refine call_fnL hN (by intro d hd; simp at hd; rcases hd with rfl | rfl <;> rfl) fun _ => ?_
  (simp -dsimp only [↓z_put, Nat.reduceLT, ↓z_ops_plain, ↓z_move, ↓evW_tmp, ↓lkW_cons, ↓reduceIte, ↓z_extract, ↓z_ex, ↓nthW_cons, Nat.reduceEqDiff, reduceCtorEq, Nat.reduceSub, ↓z_assign, ↓z_ops_nil, ↓z_seq_nrm, ↓z_seq, ↓z_block, ↓z_region, ↓z_load, ↓y_ty25, ↓y_sz25, ↓z_agTy_st, ↓loadW_ptr, ↓lkoW_cons, Nat.zero_add, ↓z_rd_t, List.length_cons, List.length_nil, Nat.reduceAdd, Nat.reduceLeDiff, ↓z_sub_c, ↓z_sub_nil, ↓y_ty34, ↓y_sz34, ↓z_callv, ↓evW_func, ↓z_evL_cons, ↓z_evL_nil, ↓z_fun0, ↓z_coeL_cons, ↓z_coe_oag, ↓z_coeC_cons, ↓z_coeS_sl, ↓z_coeS_int, ↓z_coeC_nil, ↓z_coeL_nil, true_and])
  refine call_fnL hR rfl fun _ => ?_
  (simp -dsimp only [↓z_put, Nat.reduceLT, ↓z_ops_plain, ↓z_unOp, ↓evW_tmp, ↓lkW_cons, ↓reduceIte, ↓z_un_not, ↓z_assign, ↓z_ops_nil, ↓z_seq_nrm, ↓z_cond, ↓z_cnd, ↓z_gnt, ↓z_gdf, ↓z_seq, ↓z_region, ↓z_move, Nat.reduceEqDiff, reduceCtorEq, Nat.zero_add, Nat.reduceAdd, ↓z_fieldAddr, ↓y_fl34x1, ↓y_sz3, ne_eq, not_false_eq_true, ↓z_fa_ptr, ↓z_load, ↓y_ty3, ↓z_agTy_int, ↓loadW_ptr, ↓lkoW_cons, ↓z_rd_f, ↓nthW_cons, Nat.reduceSub, ↓z_binOp, ↓z_bn_gtr, ↓z_gdt, ↓evW_const, ↓constW_int, inR_i64, Int.reduceNeg, Int.reduceLE, and_self, ↓z_ret, ↓z_blk_rt, ↓z_seq_rt, ↓z_end_rt, resLW, res1W, ↓z_coeL_cons, ↓z_coeL_nil, ↓z_pack2, D.tup.injEq, List.cons.injEq, and_true, ↓z_coe_int, D.int.injEq, true_and, ↓y_ty34, ↓y_sz34, ↓z_agTy_st, ↓z_rd_t, List.length_cons, List.length_nil, Nat.reduceLeDiff, ↓z_sub_c, ↓z_sub_nil, ↓z_callv, ↓evW_func, ↓z_evL_cons, ↓z_evL_nil, ↓z_fun0, ↓z_coe_oag, ↓z_coeC_cons, ↓z_coeS_int, ↓z_coeS_sl, ↓z_coeC_nil, z_ite]); (try simp only [Int.toNat_natCast, Nat.mul_one, Bool.or_false, Bool.false_or, Bool.or_self, Bool.or_true])
  refine ⟨fun c1 => ?_, fun c1 => ?_⟩
  · rw [if_pos c1] at e0
    refine ⟨fun c2 => ?_, fun c2 => ?_⟩
    · rw [if_pos c2] at e0
      rw [no (by omega), e0]
      exact ⟨rfl, rfl⟩
    rw [if_neg c2] at e0
    refine call_fnL hL rfl fun _ => ?_
    (simp -dsimp only [↓z_put, Nat.reduceLT, ↓z_ops_plain, ↓z_binOp, ↓evW_tmp, ↓lkW_cons, Nat.reduceEqDiff, ↓reduceIte, ↓z_bn_lss, ↓z_assign, ↓z_ops_nil, ↓z_seq_nrm, ↓z_cond, ↓z_cnd, ↓z_gdt, ↓z_seq, ↓z_region, ↓evW_const, ↓constW_int, inR_i64, Int.reduceNeg, Int.reduceLE, and_self, ↓z_ret, ↓z_blk_rt, ↓z_seq_rt, ↓z_end_rt, resLW, res1W, Nat.zero_add, ne_eq, Nat.reduceAdd, ↓z_coeL_cons, ↓z_coeL_nil, ↓z_pack2, D.tup.injEq, List.cons.injEq, and_true, ↓z_coe_int, D.int.injEq, true_and, ↓z_move, ↓z_fieldAddr, ↓y_fl25x2, ↓y_sz3, reduceCtorEq, not_false_eq_true, ↓z_fa_ptr, ↓z_load, ↓y_ty3, ↓z_agTy_int, ↓loadW_ptr, ↓lkoW_cons, ↓z_rd_f, ↓nthW_cons, Nat.reduceSub, ↓z_skip, ↓z_blk_nrm, ↓y_fl34x2, z_ite]); (try simp only [Int.toNat_natCast, Nat.mul_one, Bool.or_false, Bool.false_or, Bool.or_self, Bool.or_true])
    refine ⟨fun c3 => ?_, fun c3 => ⟨fun c4 => ?_, fun c4 => ?_⟩⟩
    · rw [if_pos c3] at e0
      rw [no (by omega), e0]
      exact ⟨rfl, rfl⟩
    · rw [if_neg c3, if_pos c4] at e0
      rw [no (by omega), e0]
      exact ⟨rfl, rfl⟩
    · rw [if_neg c3, if_neg c4] at e0
      rw [show dcN c m now = m.u from if_pos e0, e0]
      exact ⟨rfl, rfl⟩
  · rw [if_neg c1] at e0
    rw [no (by omega), e0]
    exact ⟨rfl, rfl⟩
end Go.Abs

