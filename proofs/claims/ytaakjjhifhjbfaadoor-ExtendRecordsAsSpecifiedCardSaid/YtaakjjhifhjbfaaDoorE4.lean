/-
  EXTEND, third walks: whether a plea is right; opening, sealing, voting.
-/
import Derived.Test.YtaakjjhifhjbfaaDoorE3
import Derived.Test.YtaakjjhifhjbfaaDoorAbs32
namespace Go.Abs
open Go.Proofs
theorem bl_sub1 {l : List Bl} {j : Nat} (h : j < l.length) (k : List D → Prop) : subW (List.flatMap blC l) ((j : Int).toNat * 19) 19 k = k (.int .i64 l[j].h :: .int .i64 l[j].t :: .bool l[j].y :: l[j].s.map bD) := bl_sub h k
theorem cut_C (m : Pl) (k : Nat) (h : k ≤ m.v.length) : plC (cutP m k) = [.int .i64 m.o, .int .i64 m.l, .int .i64 m.u, .int .i64 m.n, .sl 19 k (List.flatMap blC (m.v.take k))] := by
  unfold plC cutP; simp only [List.length_take, Nat.min_eq_left h]
theorem rgt_no {c : Cn} {m : Pl} {k : Nat} (hk : k < m.v.length) (h : voE c (cutP m k) m.v[k] ≠ 0) : false = decide (rgtP c m) := by
  symm; rw [decide_eq_false_iff_not]; exact fun g => h (g.2.2 k hk)
set_option maxRecDepth 100000 in
set_option maxHeartbeats 8000000 in
theorem fn_Right (c : Cn) (m : Pl) (hv : m.v.length ≤ 1000) : Fn GH Tryd.prog 25 [.agg (cnC c), .agg (plC m)] (.bool (decide (rgtP c m))) := by
  have hC := fn_Check GH c
  have hF := fn_framed GH c m
  have hV : okC c → ∀ (k : Nat) (hk : k < m.v.length), Fn GH Tryd.prog 34 [.agg (cnC c), .agg [.int .i64 m.o, .int .i64 m.l, .int .i64 m.u, .int .i64 m.n, .sl 19 k (List.flatMap blC (m.v.take k))], .agg (blC m.v[k])] (.int .i64 (voE c (cutP m k) m.v[k])) := fun h k hk =>
    (fn_vote c (cutP m k) m.v[k] h (by show (m.v.take k).length ≤ 1000; rw [List.length_take]; omega)).inp (by rw [cut_C m k (by omega)])
  unfold cnC plC at *
  refine Fn.mk (c := _) Tryd.func25 rfl rfl Tryd.ntmps25 Tryd.results25 ?_
  (simp -dsimp only [bodyW, List.length_cons, List.length_nil, Nat.zero_add, Nat.reduceAdd, Nat.reduceLeDiff, wfL, ↓z_seq, ↓z_region, ↓z_ops_plain, ↓z_box, ↓evW_tmp, ↓z_lk_env, ↓reduceIte, ↓z_cl_agg, ↓z_nmC_cons, ↓z_mn'_sl, ↓z_mn'_int, ↓z_nmC_nil, and_self, ↓z_new, ↓z_nm_nil, Nat.reduceLT, ↓z_pg_env, ↓z_mn_agg, ↓z_pg_env0, ↓z_put, ↓lkW_cons, Nat.reduceEqDiff, reduceCtorEq, ↓z_nm_cons, ↓z_pg_cons, ↓z_mn_ptr, ↓z_pg_nil, ↓z_assign, ↓evW_const, ↓constW_bool, ↓z_ops_nil, ↓z_seq_nrm, ↓z_load, ↓y_ty25, ↓y_sz25, ↓z_agTy_st, ↓loadW_ptr, ↓lkoW_cons, ↓z_rd_t, ↓z_sub_c, ↓z_sub_nil, ↓z_callv, ↓evW_func, ↓z_evL_cons, ↓z_evL_nil, ↓z_fun0, ↓z_coeL_cons, ↓z_coe_oag, ↓z_coeC_cons, ↓z_coeS_sl, ↓z_coeS_int, ↓z_coeC_nil, ↓z_coeL_nil, true_and])
  intro _ _
  refine call_fnL hC rfl fun _ => ?_
  (simp -dsimp only [↓z_put, Nat.reduceLT, ↓z_ops_plain, ↓z_binOp, ↓evW_tmp, ↓lkW_cons, ↓reduceIte, ↓evW_const, ↓constW_int, inR_i64, Int.reduceNeg, Int.reduceLE, and_self, ↓z_bn_neq, ↓z_move, ↓z_ops_guard, ↓z_grd, ↓z_dst_s, ↓z_dst_0, ↓z_grdD_b, ↓z_gdf, ne_eq, Nat.reduceEqDiff, ↓z_gnf, ↓z_gft, ↓z_pick, ↓z_pick_b, ↓z_gnt, ↓z_gff, ↓constW_bool, ↓z_ops_nil, ↓z_seq_nrm, ↓z_cond, ↓z_cnd, ↓z_gtt, ↓z_seq, ↓z_region, ↓z_assign, ↓z_ret, ↓z_seq_rt, ↓z_end_rt, resLW, res1W, Bool.not_false, Nat.zero_add, ↓z_coeL_cons, Nat.reduceAdd, ↓z_coeL_nil, ↓z_pack1, ↓z_coe_bool, D.bool.injEq, true_and, ↓z_load, ↓y_ty25, ↓y_sz25, ↓z_agTy_st, ↓loadW_ptr, ↓lkoW_cons, reduceCtorEq, ↓z_rd_t, List.length_cons, List.length_nil, Nat.reduceLeDiff, ↓z_sub_c, ↓z_sub_nil, ↓y_ty34, ↓y_sz34, ↓z_callv, ↓evW_func, ↓z_evL_cons, ↓z_evL_nil, ↓z_fun0, ↓z_coe_oag, ↓z_coeC_cons, ↓z_coeS_sl, ↓z_coeS_int, ↓z_coeC_nil, z_ite, Classical.not_not])
  refine ⟨fun c0 => ?_, fun c0 => ?_⟩
  · symm; rw [decide_eq_false_iff_not]; exact fun g => c0 (chkC_0.2 g.1)
  have hc : okC c := chkC_0.1 c0
  refine call_fnL hF rfl fun _ => ?_
  (simp -dsimp only [↓z_put, Nat.reduceLT, ↓z_ops_guard, ↓z_grd, ↓z_dst_s, ↓z_dst_0, ↓lkW_cons, Nat.reduceEqDiff, ↓reduceIte, ↓z_grdD_b, ↓z_gff, ↓z_unOp, ↓evW_tmp, ↓z_un_not, ↓z_ops_plain, ↓z_pick, ↓z_pick_b, ↓z_gft, ↓z_ops_nil, ↓z_seq_nrm, ↓z_cond, ↓z_cnd, ↓z_gnt, ↓z_gdf, ↓z_skip, ↓z_seq, ↓z_region, ↓z_load, ↓y_ty34, ↓y_sz34, ↓z_agTy_st, ↓loadW_ptr, ↓lkoW_cons, Nat.zero_add, ↓z_rd_t, List.length_cons, List.length_nil, Nat.reduceAdd, Nat.reduceLeDiff, ↓z_sub_c, ↓z_sub_nil, ↓z_alloc, ↓y_zr34, ↓z_new, ↓z_nm_cons, ↓z_nmC_cons, ↓z_mn'_int, ↓z_mn'_sl, ↓z_nmC_nil, and_self, ↓z_nm_nil, ↓z_pg_cons, ↓z_mn_oag, ↓z_mnL_int, ↓z_mnL_sl, ↓z_mnL_nil, ↓z_mn_bool, ↓z_mn_int, ↓z_mn_ptr, reduceCtorEq, ↓z_mn_agg, ↓z_pg_nil, ↓z_store, ↓z_cl_oag, ↓z_store_ptr, ↓spsW_cons, ↓drW_cons, Nat.reduceSub, ↓drW_nil, ↓z_cat_nil_r, ↓z_so_cons, ↓z_put_none, ↓z_fieldAddr, ↓y_fl34x4, ↓y_sz32, ne_eq, not_false_eq_true, ↓z_fa_ptr, ↓y_ty32, ↓z_agTy_sl, ↓z_rd_f, ↓nthW_cons, ↓z_callb, ↓z_evL_cons, ↓z_evL_nil, ↓z_len, ↓z_ln_sl, ↓z_move, ↓evW_const, ↓constW_int, inR_i64, Int.reduceNeg, Int.reduceLE, ↓z_block, ↓z_loop, true_and, ↓z_assign, ↓constW_bool, ↓z_ret, ↓z_seq_rt, ↓z_end_rt, resLW, res1W, ↓z_coeL_cons, ↓z_coeL_nil, ↓z_pack1, ↓z_coe_bool, D.bool.injEq, z_ite])
  refine ⟨fun c1 => ?_, fun c1 => ?_⟩
  · refine hold_intro ⟨[], Nat × Nat, fun x => ⟨37, 3, [(21, .int .i64 x.1), (20, .int .i64 m.v.length), (19, .sl 19 m.v.length (List.flatMap blC m.v)), (2, .ptr 0 0), (3, .ptr 1 0), (5, .ptr 2 0)],
      [(2, [.int .i64 m.o, .int .i64 m.l, .int .i64 m.u, .int .i64 m.n, .sl 19 x.2 (List.flatMap blC (m.v.take x.2))]), (1, [.int .i64 m.o, .int .i64 m.l, .int .i64 m.u, .int .i64 m.n, .sl 19 m.v.length (List.flatMap blC m.v)]), (0, [.sl 1 c.hs.length (c.hs.map (D.int .i64)), .sl 1 c.ss.length (c.ss.map D.str), .int .i64 c.nd, .int .i64 c.bd])]⟩,
      fun x => x.1 ≤ m.v.length ∧ ∀ (j : Nat) (hj : j < x.1) (hx : j < m.v.length), voE c (cutP m j) m.v[j] = 0, fun x => m.v.length - x.1, ?_, ?_⟩
    · (simp -dsimp only [↓z_ad_nil, ↓z_wk, ↓z_wkE_cons, ↓lkW_cons, ↓reduceIte, D.int.injEq, true_and, Nat.reduceEqDiff, Nat.zero_add, Nat.reduceAdd, ↓z_wkE_nil, and_self, and_true, ↓z_wkO_cons, ↓lkoW_cons, List.cons.injEq, D.sl.injEq, reduceCtorEq, ↓z_wkO_nil]); (try simp only [Int.toNat_natCast, Nat.mul_one, Bool.or_false, Bool.false_or, Bool.or_self, Bool.or_true])
      exact ⟨(0, m.v.length), by simp⟩
    rintro ⟨i, w⟩ ⟨hi, ha⟩
    by_cases h : i < m.v.length
    · have hV := hV hc i h
      rw [bl_eq] at hV
      have hsub := fun k => bl_sub1 h k
      have hl2 := bl_len m.v
      have hlt : ((i : Int) < m.v.length) = True := eq_true (by omega)
      have hs16 := m.v[i].hs
      have hcut : List.take (i * 19) (List.drop 0 (List.flatMap blC m.v)) = List.flatMap blC (m.v.take i) := by rw [List.drop_zero, fm_take bl_len1]
      have e16 : List.take 16 m.v[i].s = m.v[i].s := List.take_of_length_le (by omega)
      (simp -dsimp only [↓z_seq, ↓z_region, ↓z_ops_plain, ↓z_binOp, ↓evW_tmp, ↓lkW_cons, ↓reduceIte, Nat.reduceEqDiff, ↓z_bn_lss, ↓z_put, Nat.reduceLT, ↓z_ops_nil, ↓z_seq_nrm, ↓z_cond, ↓z_cnd, ↓z_gdt, hlt, ↓z_skip, ↓z_block, ↓z_move, ↓z_indexAddr, ↓y_ty32, ↓z_elTy_sl, ↓y_sz41, ↓z_ix_sl, ↓z_load, ↓y_ty41, ↓z_agTy_st, ↓loadW_rop, ↓z_rd_t, hl2, ↓hsub, ↓z_alloc, ↓y_zr41, ↓z_new, ↓z_nm_cons, ↓z_nmC_cons, ↓z_mn'_int, ↓z_mn'_sl, ↓z_nmC_nil, and_self, ↓z_nm_nil, ↓z_pg_cons, ↓z_mn_agg, ↓z_mn_rop, ↓z_mn_int, ↓z_mn_bool, ↓z_mn_sl, ↓z_mn_ptr, reduceCtorEq, ↓z_pg_nil, ↓z_assign, ↓z_store, ↓z_cl_agg, List.length_cons, List.length_map, ↓z_store_ptr, ↓lkoW_cons, Nat.zero_add, List.length_nil, Nat.reduceAdd, Nat.reduceLeDiff, ↓spsW_cons, ↓drW_cons, Nat.reduceSub, ↓drW_nil, ↓z_cat_nil_r, ↓z_so_cons, ↓z_put_none, ↓z_fieldAddr, ↓y_fl34x4, ↓y_sz32, ne_eq, not_false_eq_true, ↓z_fa_ptr, ↓z_agTy_sl, ↓loadW_ptr, ↓z_rd_f, ↓nthW_cons, ↓z_slice, ↓z_evO_none, ↓z_bo_none, ↓z_evO_some, ↓z_bo_some, ↓z_seTy_sl, ↓z_slc_sl_nh, ↓z_cl_sl, ↓y_ty25, ↓y_sz25, ↓z_sub_c, ↓z_sub_nil, ↓y_ty34, ↓y_sz34, ↓z_sub_map, ↓z_callv, ↓evW_func, ↓z_evL_cons, ↓z_evL_nil, ↓z_fun0, ↓z_coeL_cons, ↓z_coe_oag, ↓z_coeC_cons, ↓z_coeS_sl, ↓z_coeS_int, ↓z_coeC_nil, ↓z_coeS_bool, ↓z_coeC_bytes, ↓z_coeL_nil, true_and, z_sub]); (try simp only [Int.toNat_natCast])
      refine ⟨by omega, by omega, hs16, by omega, by omega, by omega, ?_⟩
      refine call_fnL (hV.inp (by rw [hcut, List.drop_zero, e16])) rfl fun _ => ?_
      (simp -dsimp only [↓z_put, Nat.reduceLT, ↓z_ops_plain, ↓z_binOp, ↓evW_tmp, ↓lkW_cons, ↓reduceIte, ↓evW_const, ↓constW_int, inR_i64, Int.reduceNeg, Int.reduceLE, and_self, ↓z_bn_neq, ↓z_ops_nil, ↓z_seq_nrm, ↓z_cond, ↓z_cnd, ↓z_gdt, ne_eq, ↓z_seq, ↓z_region, ↓z_assign, ↓constW_bool, ↓z_ret, ↓z_blk_rt, ↓z_seq_rt, ↓z_lp_rt, ↓z_end_rt, resLW, res1W, Nat.zero_add, ↓z_coeL_cons, Nat.reduceAdd, ↓z_coeL_nil, ↓z_pack1, ↓z_coe_bool, D.bool.injEq, true_and, ↓z_skip, ↓z_blk_nrm, Nat.reduceEqDiff, ↓z_bn_add, ↓wrW_i64, ↓z_move, ↓z_lp_nrm, ↓z_wk, ↓z_wkE_cons, D.int.injEq, ↓z_wkE_nil, and_true, ↓z_wkO_cons, ↓lkoW_cons, List.cons.injEq, D.sl.injEq, reduceCtorEq, ↓z_wkO_nil, z_ite, Classical.not_not]); (try simp only [Int.toNat_natCast, Nat.mul_one, Bool.or_false, Bool.false_or, Bool.or_self, Bool.or_true])
      refine ⟨fun g => rgt_no h g, fun g => ⟨by omega, (i + 1, i), ⟨by show i + 1 ≤ _; omega, fun j hj hx => ?_⟩, by show _ - (i + 1) < _ - i; omega, ?_⟩⟩
      · by_cases e : j = i
        · subst e; exact g
        · exact ha j (by show j < i; have : j < i + 1 := hj; omega) hx
      exact ⟨by show (i : Int) + 1 = ((i + 1 : Nat) : Int); omega, rfl, hcut⟩
    · have hl2 := bl_len m.v
      have hlt : ((i : Int) < m.v.length) = False := eq_false (by omega)
      (simp -dsimp only [↓z_seq, ↓z_region, ↓z_ops_plain, ↓z_binOp, ↓evW_tmp, ↓lkW_cons, ↓reduceIte, Nat.reduceEqDiff, ↓z_bn_lss, ↓z_put, Nat.reduceLT, ↓z_ops_nil, ↓z_seq_nrm, ↓z_cond, ↓z_cnd, ↓z_gdt, hlt, ↓z_exit, ↓z_seq_ext, ↓z_lp_ext, ↓z_blk_ext, ↓z_assign, ↓evW_const, ↓constW_bool, ↓z_ret, ↓z_end_rt, resLW, res1W, ↓z_coeL_cons, ↓z_coeL_nil, ↓z_pack1, ↓z_coe_bool, D.bool.injEq, true_and]); (try simp only [Int.toNat_natCast, Nat.mul_one, Bool.or_false, Bool.false_or, Bool.or_self, Bool.or_true])
      exact (decide_eq_true ⟨hc, c1, fun j hj => ha j (by show j < i; omega) hj⟩).symm
  · symm; rw [decide_eq_false_iff_not]; exact fun g => c1 g.2.1
set_option maxRecDepth 100000 in
set_option maxHeartbeats 8000000 in
theorem fn_Seal (c : Cn) (m : Pl) (h t : Int) (y : Bool) : Fn GH Tryd.prog 20 [.agg (cnC c), .agg (plC m), .int .i64 h, .int .i64 t, .bool y] (.tup [.agg ((slD c m h t y).map bD), .int .i64 (slE c h)]) := by
  have hC := fn_Check GH c
  have hS : okC c → 0 ≤ seatI c.hs h → Fn GH Tryd.prog 41 [.agg (cnC c), .agg (plC m), .agg (blC ⟨h, t, y, List.replicate 16 0, rfl⟩)] (.agg ((sealD c m h t y).map bD)) := fun h1 h2 => fn_seal c m ⟨h, t, y, List.replicate 16 0, rfl⟩ h1 h2
  have hD := sealD_len c m h t y
  unfold cnC plC at *
  rw [bl_eq] at hS
  refine Fn.mk (c := _) Tryd.func20 rfl rfl Tryd.ntmps20 Tryd.results20 ?_
  (simp -dsimp only [bodyW, List.length_cons, List.length_nil, Nat.zero_add, Nat.reduceAdd, Nat.reduceLeDiff, wfL, ↓z_seq, ↓z_region, ↓z_ops_plain, ↓z_box, ↓evW_tmp, ↓z_lk_env, ↓reduceIte, ↓z_cl_agg, ↓z_nmC_cons, ↓z_mn'_sl, ↓z_mn'_int, ↓z_nmC_nil, and_self, ↓z_new, ↓z_nm_nil, Nat.reduceLT, ↓z_pg_env, ↓z_mn_agg, ↓z_mn_int, ↓z_mn_bool, ↓z_pg_env0, ↓z_put, ↓lkW_cons, Nat.reduceEqDiff, reduceCtorEq, ↓z_nm_cons, ↓z_pg_cons, ↓z_mn_ptr, ↓z_pg_nil, ↓z_alloc, ↓y_zr39, ↓z_assign, ↓evW_const, ↓constW_int, inR_i64, Int.reduceNeg, Int.reduceLE, ↓z_ops_nil, ↓z_seq_nrm, ↓z_load, ↓y_ty25, ↓y_sz25, ↓z_agTy_st, ↓loadW_ptr, ↓lkoW_cons, ↓z_rd_t, ↓z_sub_c, ↓z_sub_nil, ↓z_callv, ↓evW_func, ↓z_evL_cons, ↓z_evL_nil, ↓z_fun0, ↓z_coeL_cons, ↓z_coe_oag, ↓z_coeC_cons, ↓z_coeS_sl, ↓z_coeS_int, ↓z_coeC_nil, ↓z_coeL_nil, true_and])
  intro _ _ _ _ _
  refine call_fnL hC rfl fun _ => ?_
  (simp -dsimp only [↓z_put, Nat.reduceLT, ↓z_ops_plain, ↓z_assign, ↓evW_tmp, ↓lkW_cons, ↓reduceIte, ↓z_ops_nil, ↓z_seq_nrm, ↓z_seq, ↓z_region, ↓z_move, ↓z_binOp, ↓evW_const, ↓constW_int, inR_i64, Int.reduceNeg, Int.reduceLE, and_self, ↓z_bn_neq, ↓z_cond, ↓z_cnd, ↓z_gdt, ne_eq, ↓z_build, ↓y_ty39, ↓z_blTy_arr, ↓y_zr39, ↓y_sz5, ↓z_bld_nil, Nat.reduceEqDiff, ↓z_store, ↓y_sz39, ↓z_cl_oag, List.length_cons, List.length_nil, Nat.zero_add, Nat.reduceAdd, ↓z_store_ptr, ↓lkoW_cons, Nat.reduceLeDiff, ↓spsW_cons, ↓drW_cons, reduceCtorEq, Nat.reduceSub, ↓drW_nil, ↓z_cat_nil_r, ↓z_so_cons, ↓z_put_none, ↓z_ret, ↓z_seq_rt, ↓z_end_rt, resLW, res1W, ↓z_agTy_arr, ↓z_coeL_cons, ↓z_coeL_nil, ↓z_pack2, D.tup.injEq, List.cons.injEq, and_true, ↓z_coe_int, D.int.injEq, true_and, ↓loadW_ptr, ↓z_rd_t, ↓z_sub_c, ↓z_sub_nil, ↓z_coe_oag, ↓z_coeC_cons, ↓z_coeS_int, ↓z_coeC_nil, D.agg.injEq, ↓z_skip, ↓z_fieldAddr, ↓y_fl25x0, ↓y_sz22, not_false_eq_true, ↓z_fa_ptr, ↓z_load, ↓y_ty22, ↓z_agTy_sl, ↓z_rd_f, ↓nthW_cons, ↓z_callv, ↓evW_func, ↓z_evL_cons, ↓z_evL_nil, ↓z_fun0, ↓z_coe_sl, z_ite, Classical.not_not])
  refine ⟨fun c0 => ?_, fun c0 => ?_⟩
  · have hn : ¬ okC c := fun g => c0 (chkC_0.2 g)
    have e1 : slE c h = 1 := if_neg hn
    rw [chkC_no hn, e1]
    unfold slD
    rw [e1]
    exact ⟨rfl, rfl⟩
  have hc : okC c := chkC_0.1 c0
  have e0 : slE c h = if seatI c.hs h < 0 then 19 else 0 := if_pos hc
  refine call_fnL (fn_Contains GH c.hs h) rfl fun _ => ?_
  (simp -dsimp only [↓z_put, Nat.reduceLT, ↓z_ops_plain, ↓z_unOp, ↓evW_tmp, ↓lkW_cons, ↓reduceIte, ↓z_un_not, ↓z_ops_nil, ↓z_seq_nrm, ↓z_cond, ↓z_cnd, ↓z_gnt, ↓z_gdf, ↓z_skip, ↓z_seq, ↓z_region, ↓z_load, Nat.reduceEqDiff, ↓y_ty25, ↓y_sz25, ↓z_agTy_st, ↓loadW_ptr, ↓lkoW_cons, Nat.zero_add, Nat.reduceAdd, reduceCtorEq, ↓z_rd_t, List.length_cons, List.length_nil, Nat.reduceLeDiff, ↓z_sub_c, ↓z_sub_nil, ↓y_ty34, ↓y_sz34, ↓z_move, ↓z_build, ↓y_ty41, ↓z_blTy_st, ↓y_zr41, ↓z_bld_cons, ↓y_fl41x0, ↓y_sz3, ↓z_cl_int, ↓spsW_cons, ↓drW_cons, Nat.reduceSub, ↓catW_cons, ↓catW_nil, ↓y_fl41x1, ↓y_fl41x2, ↓y_sz4, ↓z_cl_bool, ↓z_bld_nil, ↓z_callv, ↓evW_func, ↓z_evL_cons, ↓z_evL_nil, ↓z_fun0, ↓z_coeL_cons, ↓z_coe_oag, ↓z_coeC_cons, ↓z_coeS_sl, ↓z_coeS_int, ↓z_coeC_nil, ↓z_coeS_bool, ↓z_coeL_nil, true_and, ↓y_ty39, ↓z_blTy_arr, ↓y_zr39, ↓y_sz5, ↓z_store, ↓y_sz39, ↓z_cl_oag, ↓z_store_ptr, ↓drW_nil, ↓z_cat_nil_r, ↓z_so_cons, ↓z_put_none, ↓z_assign, ↓evW_const, ↓constW_int, inR_i64, Int.reduceNeg, Int.reduceLE, and_self, ↓z_ret, ↓z_seq_rt, ↓z_end_rt, resLW, res1W, ne_eq, ↓z_agTy_arr, ↓z_pack2, D.tup.injEq, List.cons.injEq, and_true, ↓z_coe_int, D.int.injEq, D.agg.injEq, z_ite])
  refine ⟨fun c1 => ⟨by rfl, ?_⟩, fun c1 => ?_⟩
  · have e1 : slE c h = 0 := by rw [e0, if_neg (by omega)]
    have e2 : slD c m h t y = sealD c m h t y := if_pos e1
    rw [e1, e2]
    refine call_fnL ((hS hc c1).inp rfl) (flS_bytes _) fun _ => ?_
    (simp -dsimp only [↓z_put, Nat.reduceLT, ↓z_ops_plain, ↓z_store, ↓evW_tmp, ↓lkW_cons, Nat.reduceEqDiff, ↓reduceIte, ↓y_sz39, ↓z_cl_agg, List.length_map, ↓z_store_ptr, ↓lkoW_cons, Nat.zero_add, Nat.reduceAdd, List.length_cons, List.length_nil, Nat.reduceLeDiff, ↓spsW_cons, ↓drW_cons, reduceCtorEq, Nat.reduceSub, ↓drW_nil, ↓z_cat_nil_r, ↓z_so_cons, ↓z_put_none, ↓z_assign, ↓evW_const, ↓constW_int, inR_i64, Int.reduceNeg, Int.reduceLE, and_self, ↓z_ops_nil, ↓z_seq_nrm, ↓z_ret, ↓z_end_rt, resLW, res1W, ne_eq, ↓y_ty39, ↓z_agTy_arr, ↓z_coeL_cons, ↓z_coeL_nil, ↓z_pack2, D.tup.injEq, List.cons.injEq, and_true, ↓z_coe_int, ↓loadW_ptr, ↓z_rd_t, ↓z_sub_map, ↓z_coe_oag, ↓z_coeC_bytes, List.drop_zero, D.agg.injEq, true_and]); (try simp only [Int.toNat_natCast, Nat.mul_one, Bool.or_false, Bool.false_or, Bool.or_self, Bool.or_true])
    exact ⟨hD, by omega, by rw [List.take_of_length_le (by omega)]⟩
  · have e1 : slE c h = 19 := by rw [e0, if_pos (by omega)]
    unfold slD
    rw [e1]
    exact ⟨rfl, rfl⟩
theorem Fn.outT {G : Glob} {P : Program} {f : FuncId} {ds : List D} {d d' e : D} (h : Fn G P f ds (.tup [d', e])) (hw : DW d' d) : Fn G P f ds (.tup [d, e]) :=
  ⟨h.1, fun b0 vs hG hL ha => (h.2 b0 vs hG hL ha).mono fun _ _ ⟨v, h1, h2, h3⟩ => ⟨v, h1, by
    cases h2 with
    | tup hs hr =>
      refine .tup hs fun i v d hv hd => ?_
      match i with
      | 0 => simp at hd; subst hd; exact hw.rep (hr 0 v d' hv rfl)
      | 1 => simp at hd; subst hd; exact hr 1 v e hv rfl
      | i + 2 => simp at hd, h3⟩⟩
def opP (c : Cn) (o l u n : Int) : Pl := if opE c o l u n = 0 then ⟨o, l, u, n, []⟩ else ⟨0, 0, 0, 0, []⟩
def plN (m : Pl) : List D := [.int .i64 m.o, .int .i64 m.l, .int .i64 m.u, .int .i64 m.n, .nils]
theorem opP_W (c : Cn) (o l u n : Int) : LW (plN (opP c o l u n)) (plC (opP c o l u n)) := by
  unfold plN plC opP
  split <;> exact .cons (.refl _) (.cons (.refl _) (.cons (.refl _) (.cons (.refl _) (.cons (.nils _) .nil))))
set_option maxRecDepth 100000 in
set_option maxHeartbeats 8000000 in
theorem fn_Open (c : Cn) (o l u n : Int) : Fn GH Tryd.prog 11 [.agg (cnC c), .int .i64 o, .int .i64 l, .int .i64 u, .int .i64 n] (.tup [.agg (plC (opP c o l u n)), .int .i64 (opE c o l u n)]) := by
  refine Fn.outT ?_ (.agg (opP_W c o l u n))
  have hC := fn_Check GH c
  have hF := (fn_framed GH c ⟨o, l, u, n, []⟩).weak (ds' := [.agg (cnC c), .agg (plN ⟨o, l, u, n, []⟩)]) (.cons (.refl _) (.cons (.agg (.cons (.refl _) (.cons (.refl _) (.cons (.refl _) (.cons (.refl _) (.cons (.nils _) .nil)))))) .nil))
  unfold cnC plN at *
  refine Fn.mk (c := _) Tryd.func11 rfl rfl Tryd.ntmps11 Tryd.results11 ?_
  (simp -dsimp only [bodyW, List.length_cons, List.length_nil, Nat.zero_add, Nat.reduceAdd, Nat.reduceLeDiff, wfL, ↓z_seq, ↓z_region, ↓z_ops_plain, ↓z_box, ↓evW_tmp, ↓z_lk_env, ↓reduceIte, ↓z_cl_agg, ↓z_nmC_cons, ↓z_mn'_sl, ↓z_mn'_int, ↓z_nmC_nil, and_self, ↓z_new, ↓z_nm_nil, Nat.reduceLT, ↓z_pg_env, ↓z_mn_agg, ↓z_mn_int, ↓z_pg_env0, ↓z_put, ↓z_alloc, ↓y_zr34, ↓z_nm_cons, ↓z_pg_cons, ↓z_mn_ptr, reduceCtorEq, ↓z_pg_nil, ↓z_assign, ↓evW_const, ↓constW_int, inR_i64, Int.reduceNeg, Int.reduceLE, ↓z_ops_nil, ↓z_seq_nrm, ↓z_load, ↓lkW_cons, Nat.reduceEqDiff, ↓y_ty25, ↓y_sz25, ↓z_agTy_st, ↓loadW_ptr, ↓lkoW_cons, ↓z_rd_t, ↓z_sub_c, ↓z_sub_nil, ↓z_callv, ↓evW_func, ↓z_evL_cons, ↓z_evL_nil, ↓z_fun0, ↓z_coeL_cons, ↓z_coe_oag, ↓z_coeC_cons, ↓z_coeS_sl, ↓z_coeS_int, ↓z_coeC_nil, ↓z_coeL_nil, true_and])
  intro _ _ _ _ _
  refine call_fnL hC rfl fun _ => ?_
  (simp -dsimp only [↓z_put, Nat.reduceLT, ↓z_ops_plain, ↓z_assign, ↓evW_tmp, ↓lkW_cons, ↓reduceIte, ↓z_ops_nil, ↓z_seq_nrm, ↓z_seq, ↓z_region, ↓z_move, ↓z_binOp, ↓evW_const, ↓constW_int, inR_i64, Int.reduceNeg, Int.reduceLE, and_self, ↓z_bn_neq, ↓z_cond, ↓z_cnd, ↓z_gdt, ne_eq, ↓z_build, ↓y_ty34, ↓z_blTy_st, ↓y_zr34, ↓z_bld_nil, Nat.reduceEqDiff, ↓z_store, ↓y_sz34, ↓z_cl_oag, List.length_cons, List.length_nil, Nat.zero_add, Nat.reduceAdd, ↓z_store_ptr, ↓lkoW_cons, Nat.reduceLeDiff, ↓spsW_cons, ↓drW_cons, reduceCtorEq, Nat.reduceSub, ↓drW_nil, ↓z_cat_nil_r, ↓z_so_cons, ↓z_put_none, ↓z_ret, ↓z_seq_rt, ↓z_end_rt, resLW, res1W, ↓z_agTy_st, ↓z_coeL_cons, ↓z_coeL_nil, ↓z_pack2, D.tup.injEq, List.cons.injEq, and_true, ↓z_coe_int, D.int.injEq, true_and, ↓loadW_ptr, ↓z_rd_t, ↓z_sub_c, ↓z_sub_nil, ↓z_coe_oag, ↓z_coeC_cons, ↓z_coeS_int, ↓z_coeS_nils, ↓z_coeC_nil, D.agg.injEq, ↓z_skip, ↓z_bn_gtr, ↓z_bld_cons, ↓y_fl34x0, ↓y_sz3, ↓z_cl_int, ↓catW_cons, ↓catW_nil, ↓y_fl34x1, ↓y_fl34x2, ↓y_fl34x3, ↓z_alloc, ↓z_new, ↓z_nm_cons, ↓z_nmC_cons, ↓z_mn'_int, ↓z_mn'_nils, ↓z_nmC_nil, ↓z_mn'_sl, ↓z_nm_nil, ↓z_pg_cons, ↓z_mn_oag, ↓z_mnL_int, ↓z_mnL_nils, ↓z_mnL_nil, ↓z_mn_int, ↓z_mn_bool, ↓z_mnL_sl, ↓z_mn_ptr, ↓z_mn_agg, ↓z_pg_nil, ↓z_load, ↓y_ty25, ↓y_sz25, ↓z_callv, ↓evW_func, ↓z_evL_cons, ↓z_evL_nil, ↓z_fun0, ↓z_coeS_sl, z_ite, Classical.not_not])
  have ne : opE c o l u n ≠ 0 → opP c o l u n = ⟨0, 0, 0, 0, []⟩ := fun h => if_neg h
  refine ⟨fun c0 => ?_, fun c0 => ?_⟩
  · have e1 : opE c o l u n = 1 := if_neg fun g => c0 (chkC_0.2 g)
    rw [ne (by omega), e1, chkC_no fun g => c0 (chkC_0.2 g)]
    exact ⟨by rfl, ⟨rfl, rfl, rfl, rfl⟩, rfl⟩
  have hc : okC c := chkC_0.1 c0
  have e0 : opE c o l u n = if l < n then 18 else if frmP c ⟨o, l, u, n, []⟩ then 0 else 3 := if_pos hc
  refine ⟨fun c1 => ?_, fun c1 => ⟨by rfl, ?_⟩⟩
  · rw [if_pos c1] at e0
    rw [ne (by omega), e0]
    exact ⟨by rfl, ⟨rfl, rfl, rfl, rfl⟩, rfl⟩
  rw [if_neg c1] at e0
  refine call_fnL hF rfl fun _ => ?_
  (simp -dsimp only [↓z_put, Nat.reduceLT, ↓z_ops_plain, ↓z_unOp, ↓evW_tmp, ↓lkW_cons, ↓reduceIte, ↓z_un_not, ↓z_ops_nil, ↓z_seq_nrm, ↓z_cond, ↓z_cnd, ↓z_gnt, ↓z_gdf, ↓z_skip, ↓z_seq, ↓z_region, ↓z_load, Nat.reduceEqDiff, ↓y_ty34, ↓y_sz34, ↓z_agTy_st, ↓loadW_ptr, ↓lkoW_cons, Nat.zero_add, Nat.reduceAdd, ↓z_rd_t, List.length_cons, List.length_nil, Nat.reduceLeDiff, ↓z_sub_c, ↓z_sub_nil, ↓z_store, ↓z_cl_oag, ↓z_store_ptr, ↓spsW_cons, ↓drW_cons, reduceCtorEq, Nat.reduceSub, ↓drW_nil, ↓z_cat_nil_r, ↓z_so_cons, ↓z_put_none, ↓z_assign, ↓evW_const, ↓constW_int, inR_i64, Int.reduceNeg, Int.reduceLE, and_self, ↓z_ret, ↓z_end_rt, resLW, res1W, ne_eq, ↓z_coeL_cons, ↓z_coeL_nil, ↓z_pack2, D.tup.injEq, List.cons.injEq, and_true, ↓z_coe_int, D.int.injEq, true_and, ↓z_coe_oag, ↓z_coeC_cons, ↓z_coeS_int, ↓z_coeS_nils, ↓z_coeC_nil, D.agg.injEq, ↓z_build, ↓z_blTy_st, ↓y_zr34, ↓z_bld_nil, ↓z_seq_rt, z_ite]); (try simp only [Int.toNat_natCast, Nat.mul_one, Bool.or_false, Bool.false_or, Bool.or_self, Bool.or_true])
  refine ⟨fun c2 => ?_, fun c2 => ?_⟩
  · rw [if_pos c2] at e0
    rw [show opP c o l u n = ⟨o, l, u, n, []⟩ from if_pos e0, e0]
    exact ⟨⟨rfl, rfl, rfl, rfl⟩, rfl⟩
  · rw [if_neg c2] at e0
    rw [ne (by omega), e0]
    exact ⟨by rfl, ⟨rfl, rfl, rfl, rfl⟩, rfl⟩
theorem nmRS_bD (a : Nat) : ∀ l : List UInt8, nmRS a (l.map bD)
  | [] => trivial
  | _ :: r => ⟨fun _ _ _ => rfl, nmRS_bD a r⟩
theorem lst_pos {m : Pl} : lstT m = m.n ∨ ∃ h : 0 < m.v.length, lstT m = max m.n (m.v[m.v.length - 1]'(by omega)).t := by
  by_cases h : 0 < m.v.length
  · exact .inr ⟨h, lst_s h⟩
  · exact .inl (lst_0 (by omega))
set_option maxRecDepth 100000 in
set_option maxHeartbeats 8000000 in
theorem fn_CloneB (G : Glob) (r : List Bl) (hx : r.length ≤ 1000000) : FnS G Tryd.prog 35 [.sl 19 r.length (List.flatMap blC r)] 19 r.length (List.flatMap blC r) := by
  refine FnS.mk (c := _) Tryd.func35 rfl rfl Tryd.ntmps35 Tryd.results35 ?_
  (simp -dsimp only [bodyW, List.length_cons, List.length_nil, Nat.zero_add, Nat.reduceLeDiff, wfL, ↓z_seq, ↓z_region, ↓z_ops_plain, ↓z_assign, ↓evW_const, ↓constW_nils, ↓z_put, Nat.reduceLT, ↓z_ops_nil, ↓z_seq_nrm, ↓z_move, ↓evW_tmp, ↓lkW_cons, reduceCtorEq, ↓reduceIte, ↓z_lk_env, ↓z_binOp, ↓z_bn_slnil, ↓y_ty32, ↓z_isSl, ↓z_nilW, ↓z_cond, ↓z_cnd, ↓z_gft, ↓z_skip, ↓z_buildSlice, ↓z_slTy, ↓y_sz41, Nat.zero_mul, maxLen_lit, ↓y_zr41, Nat.reduceAdd, ↓z_repL_0, ↓z_bld_nil, ↓z_allP_nil, ↓z_callb, ↓z_evL_cons, Nat.reduceEqDiff, ↓z_evL_nil, ↓z_append, ↓z_nint_sl, ↓y_by41, ↓z_src_sl, ↓z_app_slx, ↓z_room, ↓z_new, ↓z_nm_nil, ↓z_pg_cons, ↓z_mn_sl, ↓z_mn_slx, ↓z_mn_bool, ↓z_mn_nils, ↓z_pg_env, ↓z_pg_env0, ↓z_ret, ↓z_end_rt, resLW, res1W, ↓z_own_osl, ↓lkoW_cons, bl_allP, bl_len, and_self, List.nil_append, and_true, ↓z_envF_cons, ↓z_envF_nil, true_and, ↓z_seq_rt, ↓z_own_nils, z_gvar]); (try simp only [Int.toNat_natCast, Nat.mul_one, Bool.or_false, Bool.false_or, Bool.or_self, Bool.or_true])
  intro _
  refine ⟨fun h => ⟨by omega, by omega, .inl trivial⟩, fun h b => ?_⟩
  have e : r = [] := List.eq_nil_of_length_eq_zero (by omega)
  subst e
  exact ⟨fun _ => ⟨rfl, rfl⟩, fun _ => ⟨by simp, by simp, .inl trivial⟩⟩
set_option maxRecDepth 100000 in
set_option maxHeartbeats 8000000 in
theorem fn_Vote (c : Cn) (m : Pl) (v : Bl) (hv : m.v.length ≤ 100) : Fn GH Tryd.prog 12 [.agg (cnC c), .agg (plC m), .agg (blC v)] (.tup [.agg (plC (vtP c m v)), .int .i64 (vtE c m v)]) := by
  have hC := fn_Check GH c
  have hR := fn_Right c m (by omega)
  have hV := fn_vote c m v
  have hv16 := v.hs
  have e16 : List.take 16 v.s = v.s := List.take_of_length_le (by omega)
  unfold cnC plC at *
  rw [bl_eq] at *
  refine Fn.mk (c := _) Tryd.func12 rfl rfl Tryd.ntmps12 Tryd.results12 ?_
  (simp -dsimp only [bodyW, List.length_cons, List.length_nil, Nat.zero_add, Nat.reduceAdd, Nat.reduceLeDiff, wfL, ↓z_seq, ↓z_region, ↓z_ops_plain, ↓z_box, ↓evW_tmp, ↓z_lk_env, ↓reduceIte, ↓z_cl_agg, ↓z_nmC_cons, ↓z_mn'_sl, ↓z_mn'_int, ↓z_nmC_nil, and_self, ↓z_new, ↓z_nm_nil, Nat.reduceLT, ↓z_pg_env, ↓z_mn_agg, ↓z_pg_env0, ↓z_put, ↓lkW_cons, Nat.reduceEqDiff, reduceCtorEq, ↓z_nm_cons, ↓z_pg_cons, ↓z_mn_ptr, ↓z_pg_nil, ↓z_mn'_bool, ↓z_nmC_bytes, ↓z_alloc, ↓y_zr34, ↓z_assign, ↓evW_const, ↓constW_int, inR_i64, Int.reduceNeg, Int.reduceLE, ↓z_ops_nil, ↓z_seq_nrm, ↓z_load, ↓y_ty25, ↓y_sz25, ↓z_agTy_st, ↓loadW_ptr, ↓lkoW_cons, ↓z_rd_t, ↓z_sub_c, ↓z_sub_nil, ↓z_callv, ↓evW_func, ↓z_evL_cons, ↓z_evL_nil, ↓z_fun0, ↓z_coeL_cons, ↓z_coe_oag, ↓z_coeC_cons, ↓z_coeS_sl, ↓z_coeS_int, ↓z_coeC_nil, ↓z_coeL_nil, true_and])
  intro _ _ _
  refine call_fnL hC rfl fun _ => ?_
  (simp -dsimp only [↓z_put, Nat.reduceLT, ↓z_ops_plain, ↓z_assign, ↓evW_tmp, ↓lkW_cons, ↓reduceIte, ↓z_ops_nil, ↓z_seq_nrm, ↓z_seq, ↓z_region, ↓z_move, ↓z_binOp, ↓evW_const, ↓constW_int, inR_i64, Int.reduceNeg, Int.reduceLE, and_self, ↓z_bn_neq, ↓z_cond, ↓z_cnd, ↓z_gdt, ne_eq, ↓z_load, Nat.reduceEqDiff, ↓y_ty34, ↓y_sz34, ↓z_agTy_st, ↓loadW_ptr, ↓lkoW_cons, Nat.zero_add, Nat.reduceAdd, ↓z_rd_t, List.length_cons, List.length_nil, Nat.reduceLeDiff, ↓z_sub_c, ↓z_sub_nil, ↓z_store, ↓z_cl_oag, ↓z_store_ptr, ↓spsW_cons, ↓drW_cons, reduceCtorEq, Nat.reduceSub, ↓drW_nil, ↓z_cat_nil_r, ↓z_so_cons, ↓z_put_none, ↓z_ret, ↓z_seq_rt, ↓z_end_rt, resLW, res1W, ↓z_coeL_cons, ↓z_coeL_nil, ↓z_pack2, D.tup.injEq, List.cons.injEq, and_true, ↓z_coe_int, D.int.injEq, true_and, ↓z_coe_oag, ↓z_coeC_cons, ↓z_coeS_int, ↓z_coeS_sl, ↓z_coeC_nil, D.agg.injEq, D.sl.injEq, ↓z_skip, ↓y_ty25, ↓y_sz25, ↓z_callv, ↓evW_func, ↓z_evL_cons, ↓z_evL_nil, ↓z_fun0, z_ite, Classical.not_not])
  have no : vtE c m v ≠ 0 → vtP c m v = m := fun g => if_neg g
  refine ⟨fun c0 => ?_, fun c0 => ?_⟩
  · have hn : ¬ okC c := fun g => c0 (chkC_0.2 g)
    have e1 : vtE c m v = 1 := if_neg hn
    rw [no (by omega), e1, chkC_no hn]
    exact ⟨⟨rfl, rfl, rfl, rfl, rfl, rfl⟩, rfl⟩
  have hc : okC c := chkC_0.1 c0
  have e0 : vtE c m v = if rgtP c m then voE c m v else 1 := if_pos hc
  refine call_fnL hR rfl fun _ => ?_
  (simp -dsimp only [↓z_put, Nat.reduceLT, ↓z_ops_plain, ↓z_unOp, ↓evW_tmp, ↓lkW_cons, ↓reduceIte, ↓z_un_not, ↓z_ops_nil, ↓z_seq_nrm, ↓z_cond, ↓z_cnd, ↓z_gnt, ↓z_gdf, ↓z_skip, ↓z_seq, ↓z_region, ↓z_load, Nat.reduceEqDiff, ↓y_ty25, ↓y_sz25, ↓z_agTy_st, ↓loadW_ptr, ↓lkoW_cons, Nat.zero_add, Nat.reduceAdd, reduceCtorEq, ↓z_rd_t, List.length_cons, List.length_nil, Nat.reduceLeDiff, ↓z_sub_c, ↓z_sub_nil, ↓y_ty34, ↓y_sz34, ↓y_ty41, ↓y_sz41, List.length_map, ↓z_sub_map, ↓z_callv, ↓evW_func, ↓z_evL_cons, ↓z_evL_nil, ↓z_fun0, ↓z_coeL_cons, ↓z_coe_oag, ↓z_coeC_cons, ↓z_coeS_sl, ↓z_coeS_int, ↓z_coeC_nil, ↓z_coeS_bool, ↓z_coeC_bytes, ↓z_coeL_nil, true_and, ↓z_store, ↓z_cl_oag, ↓z_store_ptr, ↓spsW_cons, ↓drW_cons, Nat.reduceSub, ↓drW_nil, ↓z_cat_nil_r, ↓z_so_cons, ↓z_put_none, ↓z_assign, ↓evW_const, ↓constW_int, inR_i64, Int.reduceNeg, Int.reduceLE, and_self, ↓z_ret, ↓z_seq_rt, ↓z_end_rt, resLW, res1W, ne_eq, ↓z_pack2, D.tup.injEq, List.cons.injEq, and_true, ↓z_coe_int, D.int.injEq, D.agg.injEq, D.sl.injEq, z_ite])
  refine ⟨fun c1 => ⟨by omega, ?_⟩, fun c1 => ?_⟩
  · rw [if_pos c1] at e0
    refine call_fnL ((hV hc (by omega)).inp (by rw [List.drop_zero, e16])) rfl fun _ => ?_
    (simp -dsimp only [↓z_put, Nat.reduceLT, ↓z_ops_plain, ↓z_assign, ↓evW_tmp, ↓lkW_cons, ↓reduceIte, ↓z_ops_nil, ↓z_seq_nrm, ↓z_seq, ↓z_region, ↓z_move, ↓z_binOp, ↓evW_const, ↓constW_int, inR_i64, Int.reduceNeg, Int.reduceLE, and_self, ↓z_bn_neq, ↓z_cond, ↓z_cnd, ↓z_gdt, ne_eq, ↓z_load, Nat.reduceEqDiff, ↓y_ty34, ↓y_sz34, ↓z_agTy_st, ↓loadW_ptr, ↓lkoW_cons, Nat.zero_add, Nat.reduceAdd, ↓z_rd_t, List.length_cons, List.length_nil, Nat.reduceLeDiff, ↓z_sub_c, ↓z_sub_nil, ↓z_store, ↓z_cl_oag, ↓z_store_ptr, ↓spsW_cons, ↓drW_cons, reduceCtorEq, Nat.reduceSub, ↓drW_nil, ↓z_cat_nil_r, ↓z_so_cons, ↓z_put_none, ↓z_ret, ↓z_seq_rt, ↓z_end_rt, resLW, res1W, ↓z_coeL_cons, ↓z_coeL_nil, ↓z_pack2, D.tup.injEq, List.cons.injEq, and_true, ↓z_coe_int, D.int.injEq, true_and, ↓z_coe_oag, ↓z_coeC_cons, ↓z_coeS_int, ↓z_coeS_sl, ↓z_coeC_nil, D.agg.injEq, D.sl.injEq, ↓z_skip, ↓z_region_d, ↓y_mix, z_ite, Classical.not_not]); (try simp only [Int.toNat_natCast, Nat.mul_one, Bool.or_false, Bool.false_or, Bool.or_self, Bool.or_true])
    refine ⟨fun c2 => ?_, fun c2 => ?_⟩
    · rw [no (by omega), e0]
      exact ⟨⟨rfl, rfl, rfl, rfl, rfl, rfl⟩, rfl⟩
    have e1 : vtP c m v = ⟨m.o, m.l, m.u, m.n, m.v ++ [v]⟩ := if_pos (by omega)
    rw [e1, e0, c2]
    refine rgn_x 5 [] (by decide +kernel) ?_
    (simp -dsimp only [↓z_nmRE_cons, ↓z_nmR_bool, ↓z_nmR_int, ↓z_nmR_oag, ↓z_nmRS_int, ↓z_nmRS_bool, Nat.zero_add, Nat.reduceAdd, List.drop_zero, ↓z_nmRS_sl, ↓z_nmRS_nil, ↓z_nmR_ptr, Nat.reduceLT, Nat.reduceLeDiff, or_false, ↓z_nmR_agg, ↓z_nmRE_nil, and_self, and_true, true_and, ↓z_nmRO_cons, ↓z_nmRL_cons, ↓z_nmR_nils, ↓z_nmRL_nil, ↓z_nmRL_byte, ↓z_nmR_sl, ↓z_nmRO_nil, ↓z_splitO_cons, List.not_mem_nil, ↓reduceIte, ↓z_splitO_nil, List.take_succ_cons, List.take_zero, ne_eq, not_true_eq_false, List.drop_succ_cons, ↓z_seq, ↓z_region, ↓z_ops_plain, ↓z_load, ↓y_ty34, ↓y_sz34, ↓z_agTy_st, ↓z_store, ↓z_put_none, ↓z_assign, ↓evW_const, ↓constW_int, inR_i64, Int.reduceNeg, Int.reduceLE, ↓z_ops_nil, ↓z_seq_nrm, ↓z_ret, ↓z_end_rt, resLW, res1W, ↓z_coeL_cons, ↓z_coeL_nil, ↓z_pack2, List.length_append, List.length_cons, List.length_nil, D.tup.injEq, List.cons.injEq, ↓z_callb, ↓z_evL_cons, ↓evW_tmp, ↓z_evL_nil, ↓z_append, ↓y_ty32, ↓z_slTy, ↓z_nint_sl, ↓y_sz41, ↓y_by41, ↓y_zr41, ↓z_fieldAddr, ↓y_fl34x4, ↓y_sz32, reduceCtorEq, not_false_eq_true, ↓z_drx_fieldAddr, ↓z_drxS, ↓z_grd_none, ↓z_withE, ↓z_rd_tmp, ↓lkW_cons, Nat.reduceEqDiff, ↓z_rd_nil, ↓z_ap_cons, ↓z_ap_nil, ↓z_apO_cons, ↓z_apO_nil, ↓z_or_fieldAddr, ↓z_fa_ptr, ↓z_exD_all, ↓z_exD_all2, ↓z_exD_eq, ↓z_put, ↓z_drxK, ↓z_drx_load, ↓z_or_load, ↓z_agTy_sl, ↓loadW_ptr, ↓lkoW_cons, ↓z_rd_f, ↓nthW_cons, Nat.reduceSub, ↓z_drx_callv]); (try simp only [Int.toNat_natCast, Nat.mul_one, Bool.or_false, Bool.false_or, Bool.or_self, Bool.or_true])
    refine ⟨nmRS_bD _ _, ?_⟩
    refine cv_new (.osl 4 19 m.v.length) (List.flatMap blC m.v) (fun i _ _ h3 => by simp [mn]; omega) ?_
    (simp -dsimp only [Nat.reduceLT, ↓z_rd_func, ↓z_rd_tmp, ↓lkW_cons, ↓reduceIte, ↓z_rd_nil, bl_nmRL, ↓z_ap_cons, ↓z_ap_nil, ↓z_apO_cons, ↓z_apO_nil, ↓z_callv, ↓evW_func, ↓z_evL_cons, ↓evW_tmp, ↓z_evL_nil, ↓z_fun0, ↓z_coeL_cons, ↓z_coe_sl, ↓z_coeL_nil, ↓z_drx_load, ↓z_drxS, ↓z_grd_none, ↓z_withE, Nat.reduceEqDiff, ↓z_or_load, ↓z_load, ↓y_ty41, ↓y_sz41, ↓z_agTy_st, ↓loadW_ptr, ↓lkoW_cons, ↓z_rd_t, Nat.zero_add, List.length_cons, List.length_map, Nat.reduceLeDiff, ↓z_sub_c, ↓z_sub_map, List.drop_zero, and_true, ↓z_exD_all, ↓z_exD_all2, ↓z_exD_and, ↓z_exD_eq, ↓z_nmR_oag, ↓z_nmRS_int, ↓z_nmRS_bool, ↓z_put, ↓z_drxK, ↓z_drx_buildSlice, ↓z_mpO_cons, ↓z_mpO_nil, ↓z_ap_app, ↓z_or_buildSlice, ↓z_buildSlice, ↓y_ty32, ↓z_slTy, Nat.reduceMul, maxLen_lit, ↓y_zr41, List.length_nil, Nat.reduceAdd, ↓z_repL_s, ↓z_repL_0, ↓z_cat_nil_r, ↓z_bld_cons, ↓z_cl_oag, List.length_take, Nat.zero_mul, ↓spsW_cons, ↓drW_cons, reduceCtorEq, Nat.reduceSub, ↓drW_nil, ↓z_bld_nil, ↓z_allP_cons, ↓z_isP_int, ↓z_isP_bool, ↓z_allP_bytes, and_self, true_and, ↓z_nmR_slx, ↓z_drx_nil, ↓z_src_slx, ↓z_app_osl, bl_len, bl_nmC, ↓z_room, ↓z_pgo_cons, ↓z_pgc_nm, ↓z_nmC_cons, ↓z_mn'_int, ↓z_mn'_nils, ↓z_nmC_nil, ↓z_mn'_bool, ↓z_nmC_bytes, ↓z_mn'_sl, ↓z_pgo_nil, ↓z_pg_cons, ↓z_mn_slx, ↓z_mn_oag, ↓z_mnL_int, ↓z_mnL_bool, ↓z_mnL_bytes, ↓z_mn_osl, ↓z_mn_sl, ↓z_mn_ptr, ↓z_mn_bool, ↓z_mn_int, ↓z_mnL_sl, ↓z_mnL_nil, ↓z_mn_agg, ↓z_pg_nil, ↓z_so_cons, ↓z_fa_ptr, ↓z_cl_osl, ↓z_store_ptr, ↓z_sub_nil, ↓z_coe_int, ↓z_coe_oag, ↓z_coeC_cons, ↓z_coeS_int, ↓z_coeS_osl, ↓z_allP_app, bl_allP, List.length_append, ↓z_coeC_nil, D.agg.injEq, List.cons.injEq, D.sl.injEq]); (try simp only [Int.toNat_natCast, Nat.mul_one, Bool.or_false, Bool.false_or, Bool.or_self, Bool.or_true])
    refine ⟨fun E X hX => ?_, ?_⟩
    · refine call_own (fn_CloneB GH m.v (by omega)) fun _ => ?_
      (simp -dsimp only [↓z_new, ↓z_nm_cons, ↓z_nmC_cons, ↓z_mn'_int, ↓z_mn'_nils, ↓z_nmC_nil, and_self, ↓z_mn'_bool, ↓z_nmC_bytes, ↓z_mn'_sl, ↓z_pg_cons, ↓z_mn_sl, Nat.reduceAdd, true_and, hX]); (try simp only [Int.toNat_natCast, Nat.mul_one, Bool.or_false, Bool.false_or, Bool.or_self, Bool.or_true])
      simp [pgW, purge, mn]
    rw [e16]
    refine ⟨by omega, nmRS_bD _ _, by omega, by omega, by omega, by omega, ?_⟩
    rw [List.flatMap_append, List.flatMap_cons, List.flatMap_nil, List.append_nil, bl_eq]
  · rw [if_neg c1] at e0
    rw [no (by omega), e0]
    exact ⟨⟨rfl, rfl, rfl, rfl, rfl, rfl⟩, rfl⟩
end Go.Abs

