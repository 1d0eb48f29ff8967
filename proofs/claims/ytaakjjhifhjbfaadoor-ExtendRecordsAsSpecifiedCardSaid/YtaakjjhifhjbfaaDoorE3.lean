/-
  EXTEND, second walks: a vote's seal and its errors.
-/
import Derived.Test.YtaakjjhifhjbfaaDoorE2
namespace Go.Abs
open Go.Proofs
set_option maxRecDepth 100000 in
set_option maxHeartbeats 8000000 in
theorem fn_vote1 (G : Glob) (x v : Bl) : Fn G Tryd.prog 50 [.agg (blC x), .rop (blC v) 0] (.bool (decide (x.h = v.h))) := by
  rw [bl_eq, bl_eq]
  refine Fn.mk (c := _) Tryd.func50 rfl rfl Tryd.ntmps50 Tryd.results50 ?_
  (simp -dsimp only [bodyW, List.length_cons, List.length_nil, Nat.zero_add, Nat.reduceAdd, Nat.reduceLeDiff, wfL, ↓z_seq, ↓z_region, ↓z_ops_plain, ↓z_box, ↓evW_tmp, ↓z_lk_env, ↓reduceIte, ↓z_cl_agg, ↓z_nmC_cons, ↓z_mn'_int, ↓z_mn'_bool, ↓z_nmC_bytes, and_self, ↓z_new, ↓z_nm_nil, Nat.reduceLT, ↓z_pg_env, ↓z_mn_agg, ↓z_mn_rop, ↓z_pg_env0, ↓z_put, ↓z_assign, ↓evW_const, ↓constW_bool, ↓z_ops_nil, ↓z_seq_nrm, ↓z_fieldAddr, ↓lkW_cons, Nat.reduceEqDiff, ↓y_fl41x0, ↓y_sz3, ne_eq, reduceCtorEq, not_false_eq_true, ↓z_fa_ptr, ↓z_load, ↓y_ty3, ↓z_agTy_int, ↓loadW_ptr, ↓lkoW_cons, ↓z_rd_f, ↓nthW_cons, ↓z_fa_rop, ↓loadW_rop, ↓z_binOp, ↓z_bn_eql, ↓z_ret, ↓z_end_rt, resLW, res1W, ↓z_coeL_cons, ↓z_coeL_nil, ↓z_pack1, ↓z_coe_bool, true_and]); (try simp only [Int.toNat_natCast, Nat.mul_one, Bool.or_false, Bool.false_or, Bool.or_self, Bool.or_true])
  exact fun _ _ => trivial
set_option maxRecDepth 100000 in
set_option maxHeartbeats 8000000 in
theorem fn_IndexFuncB (G : Glob) (l : List Bl) (f : FuncId) (c : D) (p : Bl → Bool) (hp : ∀ x, Fn G Tryd.prog f [.agg (blC x), c] (.bool (p x))) : Fn G Tryd.prog 63 [.sl 19 l.length (List.flatMap blC l), .fn f [c]] (.int .i64 (fIdx p l)) := by
  refine Fn.mk (c := _) Tryd.func63 rfl rfl Tryd.ntmps63 Tryd.results63 ?_
  (simp -dsimp only [bodyW, List.length_cons, List.length_nil, Nat.zero_add, Nat.reduceAdd, Nat.reduceLeDiff, wfL, ↓z_seq, ↓z_region, ↓z_ops_plain, ↓z_assign, ↓evW_const, ↓constW_int, inR_i64, Int.reduceNeg, Int.reduceLE, and_self, ↓z_put, Nat.reduceLT, ↓z_ops_nil, ↓z_seq_nrm, ↓z_move, ↓evW_tmp, ↓lkW_cons, reduceCtorEq, ↓reduceIte, ↓z_lk_env, ↓z_callb, ↓z_evL_cons, ↓z_evL_nil, ↓z_len, ↓y_ty32, ↓z_ln_sl, ↓z_block, ↓z_loop, true_and])
  intro hx _
  have hx' : l.length ≤ 9223372036854775807 := hx.1.1
  have hl2 := bl_len l
  refine hold_intro ⟨[], Nat, fun i => ⟨19, 0, [(8, .int .i64 i), (7, .int .i64 l.length), (0, .sl 19 l.length (List.flatMap blC l)), (1, .fn f [c])], []⟩, fun i => i ≤ l.length ∧ ∀ (j : Nat) (hj : j < i) (hx : j < l.length), p l[j] = false, fun i => l.length - i, ?_, ?_⟩
  · (simp -dsimp only [↓z_ad_nil, ↓z_wk, ↓z_wkE_cons, ↓lkW_cons, ↓reduceIte, D.int.injEq, true_and, Nat.reduceEqDiff, reduceCtorEq, ↓z_lk_env, Nat.zero_add, ↓z_wkE_nil, and_self, and_true, ↓z_wkO_nil]); (try simp only [Int.toNat_natCast, Nat.mul_one, Bool.or_false, Bool.false_or, Bool.or_self, Bool.or_true])
    exact ⟨0, by simp⟩
  · rintro i ⟨hi, ha⟩
    by_cases h : i < l.length
    · have hsub := fun k => bl_sub h k
      have hlt : ((i : Int) < l.length) = True := eq_true (by omega)
      (simp -dsimp only [↓z_seq, ↓z_region, ↓z_ops_plain, ↓z_binOp, ↓evW_tmp, ↓lkW_cons, ↓reduceIte, Nat.reduceEqDiff, ↓z_bn_lss, ↓z_put, Nat.reduceLT, ↓z_ops_nil, ↓z_seq_nrm, ↓z_cond, ↓z_cnd, ↓z_gdt, hlt, ↓z_skip, ↓z_block, ↓z_move, ↓z_assign, reduceCtorEq, ↓z_indexAddr, ↓y_ty32, ↓z_elTy_sl, ↓y_sz41, ↓z_ix_sl, ↓z_load, ↓y_ty41, ↓z_agTy_st, ↓loadW_rop, ↓z_rd_t, hl2, ↓hsub, ↓z_callv, ↓z_evL_cons, ↓z_evL_nil, ↓z_fun, ↓z_coeL_cons, ↓z_coe_agg, ↓z_coeL_nil, true_and]); (try simp only [Int.toNat_natCast])
      refine ⟨by omega, by omega, call_fn (hp _) fun _ => ?_⟩
      (simp -dsimp only [↓z_put, Nat.reduceLT, ↓z_ops_nil, ↓z_seq_nrm, ↓z_cond, ↓evW_tmp, ↓lkW_cons, ↓reduceIte, ↓z_cnd, ↓z_seq, ↓z_region, ↓z_ops_plain, ↓z_move, Nat.reduceEqDiff, ↓z_assign, ↓z_ret, ↓z_blk_rt, ↓z_seq_rt, ↓z_lp_rt, ↓z_end_rt, resLW, res1W, ↓z_coeL_cons, ↓z_coeL_nil, ↓z_pack1, ↓z_coe_int, D.int.injEq, true_and, ↓z_skip, ↓z_blk_nrm, ↓z_binOp, ↓evW_const, ↓constW_int, inR_i64, Int.reduceNeg, Int.reduceLE, and_self, ↓z_bn_add, ↓wrW_i64, ↓z_lp_nrm, ↓z_wk, ↓z_wkE_cons, reduceCtorEq, ↓z_wkE_nil, and_true, ↓z_wkO_nil, z_gvar]); (try simp only [Int.toNat_natCast, Nat.mul_one, Bool.or_false, Bool.false_or, Bool.or_self, Bool.or_true])
      refine ⟨fun hl => ?_, fun hl => ⟨by omega, i + 1, ⟨by omega, fun j hj hx => ?_⟩, by omega, by omega⟩⟩
      · exact (fIdx_some (by omega) hl fun j hj => ha j hj (by omega)).symm
      · by_cases e : j = i
        · subst e; exact hl
        · exact ha j (by omega) hx
    · (simp -dsimp only [↓z_seq, ↓z_region, ↓z_ops_plain, ↓z_binOp, ↓evW_tmp, ↓lkW_cons, ↓reduceIte, Nat.reduceEqDiff, ↓z_bn_lss, ↓z_put, Nat.reduceLT, ↓z_ops_nil, ↓z_seq_nrm, ↓z_cond, ↓z_cnd, ↓z_gdt, ↓z_skip, ↓z_block, ↓z_move, ↓z_assign, reduceCtorEq, ↓z_indexAddr, ↓y_ty32, ↓z_elTy_sl, ↓y_sz41, ↓z_ix_sl, ↓z_load, ↓y_ty41, ↓z_agTy_st, ↓loadW_rop, ↓z_rd_t, ↓z_callv, ↓z_evL_cons, ↓z_evL_nil, ↓z_fun, ↓z_coeL_cons, ↓z_coe_agg, ↓z_coeL_nil, true_and, z_sub, ↓z_exit, ↓z_seq_ext, ↓z_lp_ext, ↓z_blk_ext, ↓evW_const, ↓constW_int, Int.reduceNeg, inR_i64, Int.reduceLE, and_self, ↓z_ret, ↓z_end_rt, resLW, res1W, ↓z_pack1, ↓z_coe_int, D.int.injEq, z_ite]); (try simp only [Int.toNat_natCast])
      refine ⟨fun h => by omega, fun h => ?_⟩
      exact (fIdx_none fun j hj => ha j (by omega) hj).symm
set_option maxRecDepth 100000 in
set_option maxHeartbeats 8000000 in
theorem fn_ContainsFuncB (G : Glob) (l : List Bl) (f : FuncId) (c : D) (p : Bl → Bool) (hp : ∀ x, Fn G Tryd.prog f [.agg (blC x), c] (.bool (p x))) : Fn G Tryd.prog 49 [.sl 19 l.length (List.flatMap blC l), .fn f [c]] (.bool (l.any p)) := by
  refine Fn.mk (c := _) Tryd.func49 rfl rfl Tryd.ntmps49 Tryd.results49 ?_
  (simp -dsimp only [bodyW, List.length_cons, List.length_nil, Nat.zero_add, Nat.reduceAdd, Nat.reduceLeDiff, wfL, ↓z_seq, ↓z_region, ↓z_ops_plain, ↓z_assign, ↓evW_const, ↓constW_bool, ↓z_put, Nat.reduceLT, ↓z_ops_nil, ↓z_seq_nrm, ↓z_move, ↓evW_tmp, ↓lkW_cons, reduceCtorEq, ↓reduceIte, ↓z_lk_env, Nat.reduceEqDiff, ↓z_callv, ↓evW_func, ↓z_evL_cons, ↓z_evL_nil, ↓z_fun0, ↓z_coeL_cons, ↓z_coe_sl, ↓z_coe_fn, ↓z_coeL_nil, true_and])
  intro _ _
  refine call_fn (fn_IndexFuncB G l f c p hp) fun _ => ?_
  (simp -dsimp only [↓z_put, Nat.reduceLT, ↓z_ops_plain, ↓z_binOp, ↓evW_tmp, ↓lkW_cons, ↓reduceIte, ↓evW_const, ↓constW_int, inR_i64, Int.reduceNeg, Int.reduceLE, and_self, ↓z_bn_geq, ↓z_assign, ↓z_ops_nil, ↓z_seq_nrm, ↓z_ret, ↓z_end_rt, resLW, res1W, ↓z_envF_cons, Nat.zero_add, ↓z_envF_nil, ↓z_coeL_cons, ↓z_coeL_nil, ↓z_pack1, ↓z_coe_bool, D.bool.injEq, true_and]); (try simp only [Int.toNat_natCast, Nat.mul_one, Bool.or_false, Bool.false_or, Bool.or_self, Bool.or_true])
  exact fIdx_any
theorem txt_parts {l : List Int} (h : ∀ x ∈ l, -9223372036854775808 ≤ x ∧ x ≤ 9223372036854775807) (hl : l.length ≤ 1000) : (∀ x ∈ txt l, x.length ≤ 10) ∧ ((txt l).flatMap encB).length ≤ 20 * l.length := by
  have h1 : ∀ x ∈ txt l, x.length ≤ 10 := fun x hx => by
    obtain ⟨y, hy, rfl⟩ := List.mem_map.1 hx
    exact encI_len (h y hy).1 (h y hy).2
  refine ⟨h1, ?_⟩
  rw [← txt_len l]
  generalize txt l = q at h1 ⊢
  induction q with
  | nil => simp
  | cons a r ih =>
    have h2 := h1 a (by simp)
    have h3 := encB_len (s := a) (by omega)
    have h4 := ih fun x hx => h1 x (by simp [hx])
    simp only [List.flatMap_cons, List.length_append, List.length_cons]; omega
theorem okC_len {c : Cn} (h : okC c) : c.ss.length = c.hs.length := h.1.2.2.1
set_option maxRecDepth 100000 in
set_option maxHeartbeats 8000000 in
theorem fn_seal (c : Cn) (m : Pl) (v : Bl) (hc : okC c) (hs : 0 ≤ seatI c.hs v.h) : Fn GH Tryd.prog 41 [.agg (cnC c), .agg (plC m), .agg (blC v)] (.agg ((sealD c m v.h v.t v.y).map bD)) := by
  have hS := fIdx_lt (fun x => decide (x = v.h)) c.hs
  obtain ⟨k, hk⟩ : ∃ k : Nat, seatI c.hs v.h = (k : Int) := ⟨(seatI c.hs v.h).toNat, by omega⟩
  have hkl : k < c.hs.length := by rw [show fIdx (fun x => decide (x = v.h)) c.hs = (k : Int) from hk] at hS; omega
  have hk2 : k < c.ss.length := by rw [okC_len hc]; exact hkl
  have eD : sealD c m v.h v.t v.y = macD c.ss[k] (txt [150, m.o, m.l, m.u, m.n, v.h, v.t, flg v.y]) := by
    unfold sealD; rw [hk, Int.toNat_natCast, getD_at hk2]
  have hsl : c.ss[k].length ≤ 64 := by have := okC_ss hc hkl; rw [getD_at hk2] at this; exact this
  rw [eD]
  have hI := fn_Index GH c.hs v.h
  rw [hk] at hI
  unfold cnC plC
  rw [bl_eq]
  refine Fn.mk (c := _) Tryd.func41 rfl rfl Tryd.ntmps41 Tryd.results41 ?_
  (simp -dsimp only [bodyW, List.length_cons, List.length_nil, Nat.zero_add, Nat.reduceAdd, Nat.reduceLeDiff, wfL, ↓z_seq, ↓z_region, ↓z_ops_plain, ↓z_box, ↓evW_tmp, ↓z_lk_env, ↓reduceIte, ↓z_cl_agg, ↓z_nmC_cons, ↓z_mn'_sl, ↓z_mn'_int, ↓z_nmC_nil, and_self, ↓z_new, ↓z_nm_nil, Nat.reduceLT, ↓z_pg_env, ↓z_mn_agg, ↓z_pg_env0, ↓z_put, ↓lkW_cons, Nat.reduceEqDiff, reduceCtorEq, ↓z_nm_cons, ↓z_pg_cons, ↓z_mn_ptr, ↓z_pg_nil, ↓z_mn'_bool, ↓z_nmC_bytes, ↓z_alloc, ↓y_zr39, ↓z_ops_nil, ↓z_seq_nrm, ↓z_fieldAddr, ↓y_fl25x0, ↓y_sz22, ne_eq, not_false_eq_true, ↓z_fa_ptr, ↓z_load, ↓y_ty22, ↓z_agTy_sl, ↓loadW_ptr, ↓lkoW_cons, ↓z_rd_f, ↓nthW_cons, ↓y_fl41x0, ↓y_sz3, ↓y_ty3, ↓z_agTy_int, ↓z_callv, ↓evW_func, ↓z_evL_cons, ↓z_evL_nil, ↓z_fun0, ↓z_coeL_cons, ↓z_coe_sl, ↓z_coe_int, ↓z_coeL_nil, true_and])
  intro _ hm hv
  refine call_fn hI fun _ => ?_
  (simp -dsimp only [↓z_put, Nat.reduceLT, ↓z_ops_plain, ↓z_assign, ↓evW_tmp, ↓lkW_cons, ↓reduceIte, ↓z_ops_nil, ↓z_seq_nrm, ↓z_seq, ↓z_region_d, ↓y_mix, true_and])
  refine rgn_x 22 [] (by decide +kernel) ?_
  (simp -dsimp only [↓z_nmRE_cons, ↓z_nmR_int, ↓z_nmR_ptr, Nat.zero_add, Nat.reduceAdd, Nat.reduceLT, Nat.reduceLeDiff, or_false, ↓z_nmR_sl, ↓z_nmR_agg, ↓z_nmRE_nil, and_self, ↓z_nmRO_cons, ↓z_nmRL_cons, ↓z_nmRL_nil, ↓z_nmR_bool, ↓z_nmRL_byte, ↓z_nmRO_nil, ↓z_splitO_cons, List.not_mem_nil, ↓reduceIte, ↓z_splitO_nil, List.take_succ_cons, List.take_zero, List.drop_succ_cons, List.drop_zero, ↓z_ret, ↓z_end_rt, resLW, res1W, ↓y_ty39, ↓y_sz39, ↓z_agTy_arr, ↓z_coeL_cons, ↓z_coeL_nil, ↓z_pack1, ↓z_ops_plain, ↓z_callv, ↓evW_func, ↓z_evL_cons, ↓evW_tmp, ↓z_evL_nil, ↓z_fun0, ↓z_drx_fieldAddr, ↓z_drxS, ↓z_grd_none, ↓z_withE, ↓z_rd_tmp, ↓lkW_cons, Nat.reduceEqDiff, ↓z_rd_nil, ↓z_ap_cons, ↓z_ap_nil, ↓z_apO_cons, ↓z_apO_nil, ↓z_or_fieldAddr, ↓z_fieldAddr, ↓y_fl25x1, ↓y_sz23, ne_eq, reduceCtorEq, not_false_eq_true, ↓z_fa_ptr, and_true, true_and, ↓z_exD_all, ↓z_exD_all2, ↓z_exD_eq, ↓z_put, ↓z_drxK, ↓z_drx_load, ↓z_or_load, ↓z_load, ↓y_ty23, ↓z_agTy_sl, ↓loadW_ptr, ↓lkoW_cons, ↓z_rd_f, ↓nthW_cons, Nat.reduceSub, ↓z_drx_move, ↓z_or_move, ↓z_move, ↓z_drx_indexAddr, ↓z_or_indexAddr, ↓z_indexAddr, ↓z_elTy_sl, ↓y_sz9, ↓z_ix_sl, Nat.mul_one, ↓z_exD_and, ↓z_nmR_rop, ↓y_ty9, ↓z_agTy_str, ↓loadW_rop, ↓z_nth_str, ↓z_exD_ex, ↓z_nmR_str, ↓y_fl34x0, ↓y_sz3, ↓y_ty3, ↓z_agTy_int, ↓y_fl34x1, ↓y_fl34x2, ↓y_fl34x3, ↓y_fl41x0, ↓y_fl41x1, ↓y_fl41x2, ↓y_sz4, ↓y_ty4, ↓z_agTy_bool, ↓z_drx_callv]); (try simp only [Int.toNat_natCast])
  have hr : ∀ x ∈ [150, m.o, m.l, m.u, m.n, v.h, v.t, flg v.y], -9223372036854775808 ≤ x ∧ x ≤ 9223372036854775807 := by
    intro x hx
    have m1 := hm.2 (.int .i64 m.o) (by simp)
    have m2 := hm.2 (.int .i64 m.l) (by simp)
    have m3 := hm.2 (.int .i64 m.u) (by simp)
    have m4 := hm.2 (.int .i64 m.n) (by simp)
    have m5 := hv.2 (.int .i64 v.h) (by simp)
    have m6 := hv.2 (.int .i64 v.t) (by simp)
    have m7 : 0 ≤ flg v.y ∧ flg v.y ≤ 1 := by unfold flg; split <;> omega
    simp only [List.mem_cons, List.not_mem_nil, or_false] at hx
    rcases hx with rfl | rfl | rfl | rfl | rfl | rfl | rfl | rfl
    · omega
    · exact m1.1
    · exact m2.1
    · exact m3.1
    · exact m4.1
    · exact m5.1
    · exact m6.1
    · omega
  obtain ⟨p1, p2⟩ := txt_parts hr (by simp)
  refine ⟨by omega, by omega, hk2, ?_⟩
  refine cv_ex ?_
  (simp -dsimp only [↓z_drxA_callv, ↓z_grd_none, ↓z_withE, ↓z_rd_func, ↓z_rd_tmp, ↓lkW_cons, ↓reduceIte, ↓z_rd_nil]); (try simp only [Int.toNat_natCast, Nat.mul_one, Bool.or_false, Bool.false_or, Bool.or_self, Bool.or_true])
  refine ex_mk (.int .i64 (flg v.y)) (fun E X => by (simp -dsimp only [↓z_ap_cons, ↓z_ap_nil, ↓z_apO_cons, ↓z_apO_nil, ↓z_callv, ↓evW_func, ↓z_evL_cons, ↓evW_tmp, ↓lkW_cons, ↓reduceIte, ↓z_evL_nil, ↓z_fun0, ↓z_coeL_cons, ↓z_coe_bool, ↓z_coeL_nil]); (try simp only [Int.toNat_natCast, Nat.mul_one, Bool.or_false, Bool.false_or, Bool.or_self, Bool.or_true]); exact call_fn (fn_flag GH v.y) fun _ => ⟨rfl, rfl⟩) ?_
  (simp -dsimp only [↓z_nmR_int, ↓z_put, Nat.reduceLT, ↓z_drxK, ↓z_drx_buildSlice, ↓z_drxS, ↓z_grd_none, ↓z_withE, ↓z_mpO_cons, ↓z_rd_const, ↓z_rd_nil, ↓z_rd_tmp, ↓lkW_cons, Nat.reduceEqDiff, ↓reduceIte, ↓z_mpO_nil, ↓z_ap_app, ↓z_ap_nil, ↓z_ap_cons, ↓z_apO_cons, ↓z_apO_nil, ↓z_or_buildSlice, ↓z_buildSlice, ↓y_ty22, ↓z_slTy, ↓y_sz3, Nat.mul_one, Nat.reduceLeDiff, maxLen_lit, ↓y_zr3, List.length_cons, List.length_nil, Nat.zero_add, ↓z_repL_s, ↓z_repL_0, ↓z_cat_nil_r, ↓catW_cons, ↓catW_nil, ↓z_bld_cons, ↓evW_const, ↓constW_int, inR_i64, Int.reduceNeg, Int.reduceLE, and_self, ↓z_cl_int, Nat.reduceAdd, ↓spsW_cons, ↓drW_cons, reduceCtorEq, Nat.reduceSub, ↓evW_tmp, ↓drW_nil, ↓z_bld_nil, ↓z_allP_cons, ↓z_isP_int, ↓z_allP_nil, and_true, true_and, ↓z_exD_all, ↓z_exD_all2, ↓z_exD_eq, ↓z_nmR_slx, ↓z_drx_callv]); (try simp only [Int.toNat_natCast, Nat.mul_one, Bool.or_false, Bool.false_or, Bool.or_self, Bool.or_true])
  refine cv_new (.osl 4 1 8) ((txt [150, m.o, m.l, m.u, m.n, v.h, v.t, flg v.y]).map D.str) (fun i _ _ h3 => by simp [mn]; omega) ?_
  (simp -dsimp only [Nat.reduceLT, ↓z_rd_func, ↓z_rd_tmp, ↓lkW_cons, ↓reduceIte, ↓z_rd_nil, ↓z_nmRL_str, ↓z_ap_cons, ↓z_ap_nil, ↓z_apO_cons, ↓z_apO_nil, ↓z_callv, ↓evW_func, ↓z_evL_cons, ↓evW_tmp, ↓z_evL_nil, ↓z_fun0, ↓z_coeL_cons, ↓z_coe_slx, ↓z_coeL_nil, ↓z_drx_nil, Nat.reduceEqDiff, ↓z_coe_str, ↓z_coe_osl, ↓lkoW_cons, ↓z_allP_str, List.length_map, Nat.mul_one, true_and]); (try simp only [Int.toNat_natCast, Nat.mul_one, Bool.or_false, Bool.false_or, Bool.or_self, Bool.or_true])
  refine ⟨fun E X hX => ?_, ?_⟩
  · refine call_own ((fn_texts GH [150, m.o, m.l, m.u, m.n, v.h, v.t, flg v.y] (by simp)).weak (.cons (.slx ..) .nil)) fun _ => ?_
    (simp -dsimp only [↓z_new, ↓z_nm_cons, ↓z_nmC_cons, ↓z_mn'_int, ↓z_nmC_nil, and_self, ↓z_mn'_bool, ↓z_nmC_bytes, ↓z_mn'_sl, ↓z_pg_cons, ↓z_mn_slx, D.osl.injEq, true_and, Nat.reduceAdd, hX]); (try simp only [Int.toNat_natCast, Nat.mul_one, Bool.or_false, Bool.false_or, Bool.or_self, Bool.or_true])
    simp [pgW, purge, mn, txt]
  refine ⟨rfl, ?_⟩
  refine call_fnL ((fn_Mac c.ss[k] (txt [150, m.o, m.l, m.u, m.n, v.h, v.t, flg v.y]) (by omega) (fun x hx => by have := p1 x hx; omega) (by simp at p2 ⊢; omega)).inp rfl) (flS_bytes _) fun _ => ?_
  (simp -dsimp only [↓z_put, Nat.reduceLT, ↓z_ops_plain, ↓z_store, ↓evW_tmp, ↓lkW_cons, Nat.reduceEqDiff, ↓reduceIte, ↓y_sz39, ↓z_cl_agg, List.length_map, ↓z_store_ptr, ↓lkoW_cons, Nat.zero_add, List.length_cons, List.length_nil, Nat.reduceAdd, Nat.reduceLeDiff, ↓spsW_cons, ↓drW_cons, reduceCtorEq, Nat.reduceSub, ↓drW_nil, ↓z_cat_nil_r, ↓z_so_cons, ↓z_put_none, ↓z_ops_nil, ↓z_seq_nrm, ↓loadW_ptr, ↓z_rd_t, ↓z_sub_map, ↓z_coe_oag, ↓z_coeC_bytes, List.drop_zero, D.agg.injEq, true_and]); (try simp only [Int.toNat_natCast, Nat.mul_one, Bool.or_false, Bool.false_or, Bool.or_self, Bool.or_true])
  have l16 := macD_len c.ss[k] (txt [150, m.o, m.l, m.u, m.n, v.h, v.t, flg v.y])
  exact ⟨l16, by omega, by rw [List.take_of_length_le (by omega)]⟩
theorem bDs_inj {a b : List UInt8} (h : a.map bD = b.map bD) : a = b := by
  refine (List.map_inj_right fun x y g => ?_).1 h
  have : (x.toNat : Int) = (y.toNat : Int) := by simpa [bD] using g
  exact UInt8.toNat_inj.1 (by omega)
theorem vo_5 (c : Cn) (m : Pl) (v : Bl) : (seatI c.hs v.h < 0 ∧ voE c m v = 19) ∨ (0 ≤ seatI c.hs v.h ∧ (m.v.any fun x => decide (x.h = v.h)) = true ∧ voE c m v = 9) ∨
    (0 ≤ seatI c.hs v.h ∧ (m.v.any fun x => decide (x.h = v.h)) = false ∧ ((m.l < v.t ∧ voE c m v = 18) ∨ (¬ m.l < v.t ∧ v.t < lstT m ∧ voE c m v = 15) ∨ (¬ m.l < v.t ∧ ¬ v.t < lstT m ∧ voE c m v = if v.s = sealD c m v.h v.t v.y then 0 else 16))) := by
  unfold voE
  by_cases h1 : seatI c.hs v.h < 0
  · exact .inl ⟨h1, if_pos h1⟩
  rw [if_neg h1]
  cases h2 : m.v.any fun x => decide (x.h = v.h) with
  | true => exact .inr (.inl ⟨by omega, rfl, if_pos rfl⟩)
  | false =>
    rw [if_neg (by simp)]
    refine .inr (.inr ⟨by omega, rfl, ?_⟩)
    by_cases h3 : m.l < v.t
    · exact .inl ⟨h3, if_pos h3⟩
    · rw [if_neg h3]
      by_cases h4 : v.t < lstT m
      · exact .inr (.inl ⟨h3, h4, if_pos h4⟩)
      · exact .inr (.inr ⟨h3, h4, if_neg h4⟩)
set_option maxRecDepth 100000 in
set_option maxHeartbeats 8000000 in
theorem fn_vote (c : Cn) (m : Pl) (v : Bl) (hc : okC c) (hv : m.v.length ≤ 1000) : Fn GH Tryd.prog 34 [.agg (cnC c), .agg (plC m), .agg (blC v)] (.int .i64 (voE c m v)) := by
  have hL := fn_last GH m hv
  have hD := sealD_len c m v.h v.t v.y
  have hv16 := v.hs
  have hS : 0 ≤ seatI c.hs v.h → _ := fun h => fn_seal c m v hc h
  have h5 := vo_5 c m v
  revert h5 hS
  unfold cnC plC at *
  rw [bl_eq]
  intro hS h5
  refine Fn.mk (c := _) Tryd.func34 rfl rfl Tryd.ntmps34 Tryd.results34 ?_
  (simp -dsimp only [bodyW, List.length_cons, List.length_nil, Nat.zero_add, Nat.reduceAdd, Nat.reduceLeDiff, wfL, ↓z_seq, ↓z_region, ↓z_ops_plain, ↓z_box, ↓evW_tmp, ↓z_lk_env, ↓reduceIte, ↓z_cl_agg, ↓z_nmC_cons, ↓z_mn'_sl, ↓z_mn'_int, ↓z_nmC_nil, and_self, ↓z_new, ↓z_nm_nil, Nat.reduceLT, ↓z_pg_env, ↓z_mn_agg, ↓z_pg_env0, ↓z_put, ↓lkW_cons, Nat.reduceEqDiff, reduceCtorEq, ↓z_nm_cons, ↓z_pg_cons, ↓z_mn_ptr, ↓z_pg_nil, ↓z_mn'_bool, ↓z_nmC_bytes, ↓z_assign, ↓evW_const, ↓constW_int, inR_i64, Int.reduceNeg, Int.reduceLE, ↓z_ops_nil, ↓z_seq_nrm, ↓z_block, ↓z_fieldAddr, ↓y_fl25x0, ↓y_sz22, ne_eq, not_false_eq_true, ↓z_fa_ptr, ↓z_load, ↓y_ty22, ↓z_agTy_sl, ↓loadW_ptr, ↓lkoW_cons, ↓z_rd_f, ↓nthW_cons, ↓y_fl41x0, ↓y_sz3, ↓y_ty3, ↓z_agTy_int, ↓z_callv, ↓evW_func, ↓z_evL_cons, ↓z_evL_nil, ↓z_fun0, ↓z_coeL_cons, ↓z_coe_sl, ↓z_coe_int, ↓z_coeL_nil, true_and])
  intro _ _ _
  refine call_fn (fn_Contains GH c.hs v.h) fun _ => ?_
  (simp -dsimp only [↓z_put, Nat.reduceLT, ↓z_ops_plain, ↓z_unOp, ↓evW_tmp, ↓lkW_cons, ↓reduceIte, ↓z_un_not, ↓z_assign, ↓z_ops_nil, ↓z_seq_nrm, ↓z_cond, ↓z_cnd, ↓z_gnt, ↓z_gdf, ↓z_seq, ↓z_region, ↓z_fieldAddr, Nat.reduceEqDiff, ↓y_fl34x4, ↓y_sz32, ne_eq, reduceCtorEq, not_false_eq_true, ↓z_fa_ptr, ↓z_load, ↓y_ty32, ↓z_agTy_sl, ↓loadW_ptr, ↓lkoW_cons, Nat.zero_add, Nat.reduceAdd, ↓z_rd_f, ↓nthW_cons, Nat.reduceSub, ↓z_makeFunc, ↓z_evL_cons, ↓z_evL_nil, ↓z_callv, ↓evW_func, ↓z_fun0, ↓z_coeL_cons, ↓z_coe_sl, ↓z_coe_ofn, ↓z_coeC_cons, ↓z_coeS_ptr, ↓z_allP_cons, ↓z_isP_int, ↓z_isP_bool, ↓z_allP_bytes, and_self, ↓z_coeC_nil, ↓z_coeL_nil, true_and, ↓evW_const, ↓constW_int, inR_i64, Int.reduceNeg, Int.reduceLE, ↓z_ret, ↓z_blk_rt, ↓z_seq_rt, ↓z_end_rt, resLW, res1W, ↓z_pack1, ↓z_coe_int, D.int.injEq, z_ite])
  refine ⟨fun s0 => ?_, fun s0 => by rcases h5 with ⟨a, b⟩ | ⟨a, b⟩ | ⟨a, b⟩ <;> omega⟩
  refine call_fnL (fn_ContainsFuncB GH m.v 50 _ (fun x => decide (x.h = v.h)) (fun x => (fn_vote1 GH x v).inp (by rw [bl_eq v]))) rfl fun _ => ?_
  (simp -dsimp only [↓z_put, Nat.reduceLT, ↓z_ops_plain, ↓z_assign, ↓evW_tmp, ↓lkW_cons, ↓reduceIte, ↓z_ops_nil, ↓z_seq_nrm, ↓z_cond, ↓z_cnd, ↓z_seq, ↓z_region, ↓evW_const, ↓constW_int, inR_i64, Int.reduceNeg, Int.reduceLE, and_self, ↓z_ret, ↓z_blk_rt, ↓z_seq_rt, ↓z_end_rt, resLW, res1W, Nat.zero_add, Nat.reduceAdd, ↓z_coeL_cons, ↓z_coeL_nil, ↓z_pack1, ↓z_coe_int, D.int.injEq, true_and, ↓z_fieldAddr, Nat.reduceEqDiff, ↓y_fl41x1, ↓y_sz3, ne_eq, reduceCtorEq, not_false_eq_true, ↓z_fa_ptr, ↓z_load, ↓y_ty3, ↓z_agTy_int, ↓loadW_ptr, ↓lkoW_cons, ↓z_rd_f, ↓nthW_cons, Nat.reduceSub, ↓y_fl34x1, ↓z_binOp, ↓z_bn_gtr, ↓z_gdt, ↓z_region_d, ↓y_mix, z_ite, z_gvar])
  refine ⟨fun a1 => ?_, fun a1 => ?_⟩
  · rcases h5 with ⟨a, b⟩ | ⟨a, a2, b⟩ | ⟨a, a2, b⟩
    · omega
    · exact b.symm
    · rw [a1] at a2; cases a2
  have h6 : (m.l < v.t ∧ voE c m v = 18) ∨ (¬ m.l < v.t ∧ v.t < lstT m ∧ voE c m v = 15) ∨ (¬ m.l < v.t ∧ ¬ v.t < lstT m ∧ voE c m v = if v.s = sealD c m v.h v.t v.y then 0 else 16) := by
    rcases h5 with ⟨a, b⟩ | ⟨a, a2, b⟩ | ⟨a, a2, b⟩
    · omega
    · rw [a1] at a2; cases a2
    · exact b
  clear h5
  refine ⟨fun a2 => by rcases h6 with ⟨a, b⟩ | ⟨a, b, d⟩ | ⟨a, b, d⟩ <;> omega, fun a2 => ?_⟩
  refine rgn_d (by decide +kernel) ?_
  (simp -dsimp only [↓z_drw_fieldAddr, ↓z_drwS, ↓z_grd_none, ↓z_withE, ↓z_rd_tmp, ↓lkW_cons, Nat.reduceEqDiff, ↓reduceIte, ↓z_rd_nil, ↓z_ap_cons, ↓z_ap_nil, ↓z_or_fieldAddr, ↓z_fieldAddr, ↓evW_tmp, ↓y_fl41x1, ↓y_sz3, ne_eq, reduceCtorEq, not_false_eq_true, ↓z_fa_ptr, Nat.zero_add, Nat.reduceAdd, and_true, true_and, ↓z_exD_all, ↓z_exD_eq, ↓z_put, Nat.reduceLT, ↓z_drwK, ↓z_drw_load, ↓z_or_load, ↓z_load, ↓y_ty3, ↓z_agTy_int, ↓loadW_ptr, ↓lkoW_cons, ↓z_rd_f, ↓nthW_cons, Nat.reduceSub, ↓y_ty34, ↓y_sz34, ↓z_agTy_st, ↓z_rd_t, List.length_cons, List.length_nil, Nat.reduceLeDiff, ↓z_sub_c, ↓z_sub_nil, ↓z_drw_callv, ↓z_rd_func]); (try simp only [Int.toNat_natCast, Nat.mul_one, Bool.or_false, Bool.false_or, Bool.or_self, Bool.or_true])
  refine ex_mk (.int .i64 (lstT m)) (fun E => by (simp -dsimp only [↓z_ap_cons, ↓z_ap_nil, ↓z_callv, ↓evW_func, ↓z_evL_cons, ↓evW_tmp, ↓lkW_cons, ↓reduceIte, ↓z_evL_nil, ↓z_fun0, ↓z_coeL_cons, ↓z_coe_oag, ↓z_coeC_cons, ↓z_coeS_int, ↓z_coeS_sl, ↓z_coeC_nil, ↓z_coeL_nil]); (try simp only [Int.toNat_natCast, Nat.mul_one, Bool.or_false, Bool.false_or, Bool.or_self, Bool.or_true]); exact call_fnL hL rfl fun _ => ⟨rfl, rfl⟩) ?_
  (simp -dsimp only [↓z_put, Nat.reduceLT, ↓z_drwK, ↓z_drw_binOp, ↓z_drwS, ↓z_grd_none, ↓z_withE, ↓z_rd_tmp, ↓lkW_cons, Nat.reduceEqDiff, ↓reduceIte, ↓z_rd_nil, ↓z_ap_cons, ↓z_ap_nil, ↓z_or_binOp, ↓z_binOp, ↓evW_tmp, ↓z_bn_lss, Nat.zero_add, Nat.reduceAdd, and_true, ↓z_exD_all, ↓z_exD_eq, ↓z_drw_assign, ↓z_or_assign, ↓z_assign, ↓z_drw_nil, ↓z_seq_nrm, ↓z_cond, ↓z_cnd, ↓z_gdt, ↓z_seq, ↓z_region, ↓z_ops_plain, ↓evW_const, ↓constW_int, inR_i64, Int.reduceNeg, Int.reduceLE, and_self, ↓z_ops_nil, ↓z_ret, ↓z_blk_rt, ↓z_seq_rt, ↓z_end_rt, resLW, res1W, ↓z_coeL_cons, ↓z_coeL_nil, ↓z_pack1, ↓z_coe_int, D.int.injEq, true_and, ↓z_region_d, ↓y_mix, z_ite]); (try simp only [Int.toNat_natCast, Nat.mul_one, Bool.or_false, Bool.false_or, Bool.or_self, Bool.or_true])
  refine ⟨fun a3 => by rcases h6 with ⟨a, b⟩ | ⟨a, b, d⟩ | ⟨a, b, d⟩ <;> omega, fun a3 => ?_⟩
  have h7 : voE c m v = if v.s = sealD c m v.h v.t v.y then 0 else 16 := by
    rcases h6 with ⟨a, b⟩ | ⟨a, b, d⟩ | ⟨a, b, d⟩
    · omega
    · omega
    · exact d
  clear h6
  refine rgn_d (by decide +kernel) ?_
  (simp -dsimp only [↓z_drw_fieldAddr, ↓z_drwS, ↓z_grd_none, ↓z_withE, ↓z_rd_tmp, ↓lkW_cons, Nat.reduceEqDiff, ↓reduceIte, ↓z_rd_nil, ↓z_ap_cons, ↓z_ap_nil, ↓z_or_fieldAddr, ↓z_fieldAddr, ↓evW_tmp, ↓y_fl41x3, ↓y_sz39, ne_eq, reduceCtorEq, not_false_eq_true, ↓z_fa_ptr, Nat.zero_add, Nat.reduceAdd, and_true, true_and, ↓z_exD_all, ↓z_exD_eq, ↓z_put, Nat.reduceLT, ↓z_drwK, ↓z_drw_load, ↓z_or_load, ↓z_load, ↓y_ty39, ↓z_agTy_arr, ↓loadW_ptr, ↓lkoW_cons, ↓z_rd_t, List.length_cons, List.length_map, Nat.reduceLeDiff, ↓z_sub_cs, ↓z_sub_map, List.drop_zero, ↓z_exD_and, ↓y_ty25, ↓y_sz25, ↓z_agTy_st, List.length_nil, ↓z_sub_c, ↓z_sub_nil, ↓y_ty34, ↓y_sz34, ↓y_ty41, ↓y_sz41, ↓z_drw_callv, ↓z_rd_func]); (try simp only [Int.toNat_natCast, Nat.mul_one, Bool.or_false, Bool.false_or, Bool.or_self, Bool.or_true])
  refine ⟨by omega, by omega, ?_⟩
  refine ex_mk (.agg ((sealD c m v.h v.t v.y).map bD)) (fun E => by
    have e16 : List.take 16 v.s = v.s := List.take_of_length_le (by omega)
    (simp -dsimp only [↓z_ap_cons, ↓z_ap_nil, ↓z_callv, ↓evW_func, ↓z_evL_cons, ↓evW_tmp, ↓lkW_cons, ↓reduceIte, Nat.reduceEqDiff, ↓z_evL_nil, ↓z_fun0, ↓z_coeL_cons, ↓z_coe_oag, ↓z_coeC_cons, ↓z_coeS_sl, ↓z_coeS_int, ↓z_coeC_nil, ↓z_coeS_bool, ↓z_coeC_bytes, ↓z_coeL_nil]); (try simp only [Int.toNat_natCast, Nat.mul_one, Bool.or_false, Bool.false_or, Bool.or_self, Bool.or_true])
    rw [e16]
    exact call_fnL (hS s0) (flS_bytes _) fun _ => ⟨rfl, rfl⟩) ?_
  (simp -dsimp only [↓z_put, Nat.reduceLT, ↓z_drwK, ↓z_drw_binOp, ↓z_drwS, ↓z_grd_none, ↓z_withE, ↓z_rd_tmp, ↓lkW_cons, Nat.reduceEqDiff, ↓reduceIte, ↓z_rd_nil, ↓z_ap_cons, ↓z_ap_nil, ↓z_or_binOp, ↓z_binOp, ↓evW_tmp, ↓z_bn_oneq, ↓z_allP_bytes, ↓y_fk39, ↓kdM_bytes, List.length_take, Nat.zero_add, Nat.reduceAdd, and_true, true_and, ↓z_exD_all, ↓z_exD_and, ↓z_exD_eq, ↓z_drw_assign, ↓z_or_assign, ↓z_assign, ↓z_drw_nil, ↓z_seq_nrm, ↓z_cond, ↓z_cnd, ↓z_gnt, ↓z_geqf, ↓z_seq, ↓z_region, ↓z_ops_plain, ↓evW_const, ↓constW_int, inR_i64, Int.reduceNeg, Int.reduceLE, and_self, ↓z_ops_nil, ↓z_ret, ↓z_blk_rt, ↓z_seq_rt, ↓z_end_rt, resLW, res1W, ↓z_coeL_cons, ↓z_coeL_nil, ↓z_pack1, ↓z_coe_int, D.int.injEq, ↓z_skip, ↓z_blk_nrm]); (try simp only [Int.toNat_natCast, Nat.mul_one, Bool.or_false, Bool.false_or, Bool.or_self, Bool.or_true])
  have e16 : List.take 16 v.s = v.s := List.take_of_length_le (by omega)
  rw [e16, h7]
  refine ⟨by omega, hD, fun g => ?_, fun g => ?_⟩
  · rw [if_neg fun g2 => g (by rw [g2])]
  · rw [if_pos (bDs_inj g)]
end Go.Abs

