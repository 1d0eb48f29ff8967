/-
  EXTEND, twelfth walks: chains of decisions.
-/
import Derived.Test.YtaakjjhifhjbfaaDoorE11
import Derived.Test.YtaakjjhifhjbfaaDoorV1
import Derived.Test.YtaakjjhifhjbfaaDoorAbs31
namespace Go.Abs
open Go.Proofs
theorem xt_eq (x : Xt) : xtC x = .int .i64 x.p.o :: .int .i64 x.p.l :: .int .i64 x.p.u :: .int .i64 x.p.n :: .sl 19 x.p.v.length (List.flatMap blC x.p.v) :: .int .i64 x.t :: x.d.map bD := rfl
theorem xt_len1 (x : Xt) : (xtC x).length = 22 := by rw [xt_eq]; simp [x.hd]
theorem xt_len (l : List Xt) : (List.flatMap xtC l).length = l.length * 22 := fm_len xt_len1 l
theorem xt_at {l : List Xt} {j : Nat} (h : j < l.length) : ((List.flatMap xtC l).drop (j * 22)).take 22 = xtC l[j] := fm_at xt_len1 h
theorem xt_sub {l : List Xt} {j : Nat} (h : j < l.length) (k : List D → Prop) : subW (List.flatMap xtC l) ((j : Int).toNat * 22) 22 k = k (.int .i64 l[j].p.o :: .int .i64 l[j].p.l :: .int .i64 l[j].p.u :: .int .i64 l[j].p.n :: .sl 19 l[j].p.v.length (List.flatMap blC l[j].p.v) :: .int .i64 l[j].t :: l[j].d.map bD) := by
  unfold subW; rw [Int.toNat_natCast, xt_at h, xt_eq]
theorem mn_mpr (a r : Nat) : (mn a (.mpr r) = false) = True := eq_true rfl
theorem mnW_mpr (a r : Nat) (K : D → Prop) : mnW a (.mpr r) K = K (.mpr r) := _root_.id rfl
theorem nmR_mpr (a r : Nat) : nmR a (.mpr r) = True := eq_true fun _ _ _ => rfl
theorem nmRS_b (a : Nat) (s : List UInt8) : nmRS a (s.map bD) = True := eq_true (nmRS_bD a s)
set_option maxRecDepth 100000 in
set_option maxHeartbeats 900000 in
theorem fn_Verify (c : Cn) (l : List Xt) (hl : l.length ≤ 1000) (hv : ∀ x ∈ l, x.p.v.length ≤ 1000) : Fn GH Tryd.prog 17 [.agg (cnC c), .sl 22 l.length (List.flatMap xtC l)] (.tup [.int .i64 (vfR c l).1, .int .i64 (vfR c l).2]) := by
  have hC := fn_Check GH c
  have hD := fun (x : Xt) (h : x ∈ l) => fn_Decide c x.p x.t (hv x h)
  unfold cnC at *
  refine Fn.mkM 3 3 (untH l) (c := _) Tryd.func17 rfl rfl Tryd.ntmps17 Tryd.results17 ?_
  (simp -dsimp only [List.length_cons, List.length_nil, Nat.zero_add, Nat.reduceAdd, Nat.reduceLeDiff, wfL, ↓z_m_seq, ↓z_m_region, ↓z_om_plain, ↓z_mo_box, ↓z_box, ↓evW_tmp, ↓z_lk_env, ↓reduceIte, ↓z_cl_agg, ↓z_nmC_cons, ↓z_mn'_sl, ↓z_mn'_int, ↓z_nmC_nil, and_self, ↓z_new, ↓z_nm_nil, Nat.reduceLT, ↓z_pg_env, ↓z_mn_agg, ↓z_mn_sl, ↓z_pg_env0, ↓z_put, ↓z_mo_assign, ↓z_assign, ↓evW_const, ↓constW_int, inR_i64, Int.reduceNeg, Int.reduceLE, ↓z_om_nil, ↓z_seq_nrm, ↓z_mo_load, ↓z_load, ↓lkW_cons, Nat.reduceEqDiff, ↓y_ty25, ↓y_sz25, ↓z_agTy_st, ↓loadW_ptr, ↓lkoW_cons, ↓z_rd_t, ↓z_sub_c, ↓z_sub_nil, ↓z_mo_callv, ↓evW_func, ↓z_evL_cons, ↓z_evL_nil, ↓z_fun0, ↓z_coeL_cons, ↓z_coe_oag, ↓z_coeC_cons, ↓z_coeS_sl, ↓z_coeS_int, ↓z_coeC_nil, ↓z_coeL_nil, true_and])
  intro _ _
  refine call_fnL hC rfl fun _ => ?_
  (simp -dsimp only [↓z_put, Nat.reduceLT, ↓z_om_plain, ↓z_mo_assign, ↓z_assign, ↓evW_tmp, ↓lkW_cons, ↓reduceIte, ↓z_om_nil, ↓z_seq_nrm, ↓z_m_seq, ↓z_m_region, ↓z_mo_move, ↓z_move, ↓z_mo_binOp, ↓z_binOp, ↓evW_const, ↓constW_int, inR_i64, Int.reduceNeg, Int.reduceLE, and_self, ↓z_bn_neq, ↓z_m_cond, ↓z_cnd, ↓z_gdt, ne_eq, Nat.reduceEqDiff, ↓z_m_ret, ↓z_seq_rt, ↓z_end_rt, resLW, res1W, Nat.zero_add, ↓z_pack2, D.tup.injEq, List.cons.injEq, and_true, D.int.injEq, true_and, ↓z_m_skip, ↓z_mo_alloc, ↓z_alloc, ↓y_zr39, ↓z_new, ↓z_nm_cons, ↓z_nmC_cons, ↓z_mn'_sl, ↓z_mn'_int, ↓z_nmC_nil, ↓z_nm_nil, ↓z_pg_cons, ↓z_mn_bool, ↓z_mn_int, ↓z_mn_oag, ↓z_mnL_sl, ↓z_mnL_int, ↓z_mnL_nil, ↓z_mn_ptr, reduceCtorEq, ↓z_mn_agg, ↓z_mn_sl, ↓z_pg_nil, ↓z_mo_map, z_ite, Classical.not_not])
  refine ⟨fun c0 => ?_, fun c0 => ?_⟩
  · have hn : ¬ okC c := fun g => c0 (chkC_0.2 g)
    rw [vfR_no hn, chkC_no hn]
    exact ⟨⟨rfl, rfl⟩, by intro e he; simp at he; rcases he with rfl | rfl <;> rfl⟩
  have hc : okC c := chkC_0.1 c0
  have hM : mapT Tryd.prog 3 3 87 := ⟨rfl, rfl, rfl, fun _ => rfl⟩
  refine ⟨hM, mkm_mk rfl fun r => ?_⟩
  (simp -dsimp only [↓z_put, Nat.reduceLT, ↓z_om_plain, ↓z_mo_assign, ↓z_assign, ↓evW_tmp, ↓lkW_cons, ↓reduceIte, ↓z_om_nil, ↓z_seq_nrm, ↓z_m_seq, ↓z_m_region, ↓z_mo_move, ↓z_move, Nat.reduceEqDiff, reduceCtorEq, Nat.zero_add, ↓z_mo_callb, ↓z_callb, ↓z_evL_cons, ↓z_evL_nil, ↓z_len, ↓y_ty49, ↓z_ln_sl, ↓evW_const, ↓constW_int, inR_i64, Int.reduceNeg, Int.reduceLE, and_self, ↓z_m_block, ↓z_m_loop, true_and])
  refine hold_intro ⟨[], Nat, fun i => ⟨80, 2, [(23, .int .i64 i), (22, .int .i64 l.length), (21, .sl 22 l.length (List.flatMap xtC l)), (8, .mpr r), (7, .ptr 1 0), (2, .ptr 0 0), (1, .sl 22 l.length (List.flatMap xtC l))],
    [(1000000, [.mpr r, .int .i64 i]), (1, (befD l i).map bD), (0, [.sl 1 c.hs.length (c.hs.map (D.int .i64)), .sl 1 c.ss.length (c.ss.map D.str), .int .i64 c.nd, .int .i64 c.bd])]⟩,
    fun i => i ≤ l.length ∧ ∀ j, j < i → xtAt c l j = 0, fun i => l.length - i, ?_, ?_⟩
  · (simp -dsimp only [↓z_ad_nil, ↓z_wk, ↓z_wkE_cons, ↓lkW_cons, ↓reduceIte, D.int.injEq, true_and, Nat.reduceEqDiff, Nat.zero_add, reduceCtorEq, ↓z_wkE_nil, and_self, and_true, ↓z_wkO_cons, ↓lkoW_cons, List.cons.injEq, ↓z_wkO_nil]); (try simp only [Int.toNat_natCast, Nat.mul_one, Bool.or_false, Bool.false_or, Bool.or_self, Bool.or_true])
    exact ⟨0, ⟨by omega, fun j hj => by omega⟩, rfl, rfl, rfl⟩
  rintro i ⟨hi, ha⟩
  have hb16 := befD_len l i
  by_cases h : i < l.length
  · have hsub := fun k => xt_sub h k
    have hl2 := xt_len l
    have hlt : ((i : Int) < l.length) = True := eq_true (by omega)
    have hd16 := l[i].hd
    (simp -dsimp only [↓z_m_seq, ↓z_m_region, ↓z_om_plain, ↓z_mo_binOp, ↓z_binOp, ↓evW_tmp, ↓lkW_cons, ↓reduceIte, Nat.reduceEqDiff, ↓z_bn_lss, ↓z_put, Nat.reduceLT, ↓z_om_nil, ↓z_seq_nrm, ↓z_m_cond, ↓z_cnd, ↓z_gdt, hlt, ↓z_m_skip, ↓z_m_block, ↓z_mo_move, ↓z_move, ↓z_mo_indexAddr, ↓z_indexAddr, ↓y_ty49, ↓z_elTy_sl, ↓y_sz53, ↓z_ix_sl, ↓z_mo_load, ↓z_load, ↓y_ty53, ↓z_agTy_st, ↓loadW_rop, ↓z_rd_t, hl2, ↓hsub, ↓z_mo_alloc, ↓z_alloc, ↓y_zr53, ↓z_new, ↓z_nm_cons, ↓z_nmC_cons, mn_mpr, ↓z_mn'_int, ↓z_nmC_nil, and_self, ↓z_nmC_bytes, ↓z_mn'_sl, ↓z_nm_nil, ↓z_pg_cons, ↓z_mn_agg, ↓z_mn_rop, ↓z_mn_int, ↓z_mn_bool, ↓z_mn_sl, ↓z_mn_ptr, reduceCtorEq, ↓z_pg_nil, ↓z_mo_assign, ↓z_assign, ↓z_mo_store, ↓z_store, ↓z_cl_agg, List.length_cons, List.length_map, ↓z_store_ptr, ↓lkoW_cons, Nat.zero_add, List.length_nil, Nat.reduceAdd, Nat.reduceLeDiff, ↓spsW_cons, ↓drW_cons, Nat.reduceSub, ↓drW_nil, ↓z_cat_nil_r, ↓z_so_cons, ↓z_put_none, ↓z_m_region_d, ↓y_mix, true_and, mnW_mpr]); (try simp only [Int.toNat_natCast])
    refine ⟨by omega, by omega, hd16, rgnm_t (rgn_d (by decide +kernel) ?_)⟩
    (simp -dsimp only [↓z_drw_fieldAddr, ↓z_drwS, ↓z_grd_none, ↓z_withE, ↓z_rd_tmp, ↓lkW_cons, Nat.reduceEqDiff, ↓reduceIte, ↓z_rd_nil, ↓z_ap_cons, ↓z_ap_nil, ↓z_or_fieldAddr, ↓z_fieldAddr, ↓evW_tmp, ↓y_fl53x2, ↓y_sz39, ne_eq, reduceCtorEq, not_false_eq_true, ↓z_fa_ptr, Nat.zero_add, Nat.reduceAdd, and_true, true_and, ↓z_exD_all, ↓z_exD_eq, ↓z_put, Nat.reduceLT, ↓z_drwK, ↓z_drw_load, ↓z_or_load, ↓z_load, ↓y_ty39, ↓z_agTy_arr, ↓loadW_ptr, ↓lkoW_cons, ↓z_rd_t, List.length_cons, List.length_map, Nat.reduceLeDiff, ↓z_sub_cs, ↓z_sub_map, List.drop_zero, ↓z_exD_and, ↓y_fl53x0, ↓y_sz34, ↓y_ty34, ↓z_agTy_st, ↓z_sub_c, ↓z_sub_c0, ↓y_fl53x1, ↓y_sz3, ↓y_ty3, ↓z_agTy_int, ↓z_rd_f, ↓nthW_cons, Nat.reduceSub, ↓z_drw_callv, ↓z_rd_func]); (try simp only [Int.toNat_natCast, Nat.mul_one, Bool.or_false, Bool.false_or, Bool.or_self, Bool.or_true])
    have hR := fn_Record (befD l i) hb16 l[i].p l[i].t (hv _ (List.getElem_mem h))
    have hD := hD l[i] (List.getElem_mem h)
    have eb : List.take 16 (befD l i) = befD l i := List.take_of_length_le (by omega)
    have ed : List.take 16 l[i].d = l[i].d := List.take_of_length_le (by omega)
    have l16 := recD_len (befD l i) l[i].p l[i].t
    unfold plC at hR hD
    refine ⟨by omega, by omega, ?_⟩
    refine ex_mk (.agg ((recD (befD l i) l[i].p l[i].t).map bD)) (fun E => by
      (simp -dsimp only [↓z_ap_cons, ↓z_ap_nil, ↓z_callv, ↓evW_func, ↓z_evL_cons, ↓evW_tmp, ↓lkW_cons, ↓reduceIte, Nat.reduceEqDiff, ↓z_evL_nil, ↓z_fun0, ↓z_coeL_cons, ↓z_coe_oag, ↓z_coeC_bytes, ↓z_coeC_cons, ↓z_coeS_int, ↓z_coeS_sl, ↓z_coeC_nil, ↓z_coe_int, ↓z_coeL_nil]); (try simp only [Int.toNat_natCast, Nat.mul_one, Bool.or_false, Bool.false_or, Bool.or_self, Bool.or_true])
      exact call_fnL (hR.inp (by rw [eb])) (flS_bytes _) fun _ => ⟨rfl, rfl⟩) ?_
    (simp -dsimp only [↓z_put, Nat.reduceLT, ↓z_drwK, ↓z_drw_binOp, ↓z_drwS, ↓z_grd_none, ↓z_withE, ↓z_rd_tmp, ↓lkW_cons, Nat.reduceEqDiff, ↓reduceIte, ↓z_rd_nil, ↓z_ap_cons, ↓z_ap_nil, ↓z_or_binOp, ↓z_binOp, ↓evW_tmp, ↓z_bn_oneq, ↓z_allP_bytes, ↓y_fk39, ↓kdM_bytes, List.length_take, Nat.reduceAdd, and_true, true_and, ↓z_exD_all, ↓z_exD_and, ↓z_exD_eq, ↓z_drw_nil, ↓z_seq_nrm, ↓z_m_cond, ↓z_cnd, ↓z_gnt, ↓z_geqf, ↓z_m_seq, ↓z_m_region, ↓z_om_plain, ↓z_mo_move, ↓z_move, ↓z_mo_assign, ↓z_assign, ↓evW_const, ↓constW_int, inR_i64, Int.reduceNeg, Int.reduceLE, and_self, ↓z_om_nil, ↓z_m_ret, ↓z_seq_rt, ↓z_blk_rt, ↓z_lp_rt, ↓z_end_rt, resLW, res1W, ↓z_pack2, D.tup.injEq, List.cons.injEq, List.mem_cons, List.not_mem_nil, or_false, D.int.injEq, ↓z_m_skip, ↓z_mo_load, ↓z_load, ↓y_ty25, ↓y_sz25, ↓z_agTy_st, ↓loadW_ptr, ↓lkoW_cons, reduceCtorEq, ↓z_rd_t, Nat.zero_add, List.length_cons, List.length_nil, Nat.reduceLeDiff, ↓z_sub_c, ↓z_sub_nil, ↓z_mo_fieldAddr, ↓z_fieldAddr, ↓y_fl53x0, ↓y_sz34, ne_eq, not_false_eq_true, ↓z_fa_ptr, ↓y_ty34, List.length_map, ↓y_fl53x1, ↓y_sz3, ↓y_ty3, ↓z_agTy_int, ↓z_rd_f, ↓nthW_cons, Nat.reduceSub, ↓z_mo_callv, ↓evW_func, ↓z_evL_cons, ↓z_evL_nil, ↓z_fun0, ↓z_coeL_cons, ↓z_coe_oag, ↓z_coeC_cons, ↓z_coeS_sl, ↓z_coeS_int, ↓z_coeC_nil, ↓z_coe_int, ↓z_coeL_nil, z_sub, List.drop_zero, List.take_succ_cons, List.take_zero]); (try simp only [Int.toNat_natCast, Nat.mul_one, Bool.or_false, Bool.false_or, Bool.or_self, Bool.or_true])
    refine ⟨by omega, l16, fun g => ?_, fun g => ?_⟩
    · have hx : xtAt c l i = 23 := by
        rw [xtAt_in h]; unfold xtE
        exact if_neg fun e => g (by rw [ed]; exact congrArg _ e)
      rw [vfR_bad hc h ha (by rw [hx]; decide), hx]
      exact ⟨⟨rfl, rfl⟩, by intro e he; (try simp only [List.mem_cons, List.not_mem_nil, or_false] at he); rcases he with rfl | rfl <;> rfl⟩
    have e1 : l[i].d = recD (befD l i) l[i].p l[i].t := by have := bDs_inj g; rwa [ed] at this
    refine call_fnL hD (by intro d hd; simp at hd; rcases hd with rfl | rfl <;> rfl) fun _ => ?_
    (simp -dsimp only [↓z_put, Nat.reduceLT, ↓z_om_plain, ↓z_mo_move, ↓z_move, ↓evW_tmp, ↓lkW_cons, ↓reduceIte, ↓z_mo_extract, ↓z_extract, ↓z_ex, ↓nthW_cons, Nat.reduceEqDiff, reduceCtorEq, Nat.reduceSub, ↓z_mo_assign, ↓z_assign, ↓z_om_nil, ↓z_seq_nrm, ↓z_m_seq, ↓z_m_region, ↓z_mo_binOp, ↓z_binOp, ↓evW_const, ↓constW_int, inR_i64, Int.reduceNeg, Int.reduceLE, and_self, ↓z_bn_neq, ↓z_m_cond, ↓z_cnd, ↓z_gdt, ne_eq, ↓z_m_ret, ↓z_seq_rt, ↓z_blk_rt, ↓z_lp_rt, ↓z_end_rt, resLW, res1W, Nat.zero_add, ↓z_pack2, D.tup.injEq, List.cons.injEq, and_true, D.int.injEq, true_and, ↓z_m_skip, ↓z_mo_fieldAddr, ↓z_fieldAddr, ↓y_fl53x0, ↓y_sz34, not_false_eq_true, ↓z_fa_ptr, ↓y_fl34x0, ↓y_sz3, ↓z_mo_load, ↓z_load, ↓y_ty3, ↓z_agTy_int, ↓loadW_ptr, ↓lkoW_cons, ↓z_rd_f, ↓z_mo_lookup, z_ite, Classical.not_not]); (try simp only [Int.toNat_natCast, Nat.mul_one, Bool.or_false, Bool.false_or, Bool.or_self, Bool.or_true])
    refine ⟨fun g2 => ?_, fun g2 => ?_⟩
    · have hx : xtAt c l i = dcE c l[i].p l[i].t := by
        rw [xtAt_in h]; unfold xtE
        rw [if_pos e1, if_neg g2]
      rw [vfR_bad hc h ha (by rw [hx]; exact g2), hx]
      exact ⟨⟨rfl, rfl⟩, by intro e he; (try simp only [List.mem_cons, List.not_mem_nil, or_false] at he); rcases he with rfl | rfl <;> rfl⟩
    refine ⟨hM, lkp_mk i (by (simp -dsimp only [↓lkoW_cons, Nat.reduceEqDiff, ↓reduceIte]); (try simp only [Int.toNat_natCast, Nat.mul_one, Bool.or_false, Bool.false_or, Bool.or_self, Bool.or_true])) ?_⟩
    (simp -dsimp only [↓z_put, Nat.reduceLT, ↓z_om_plain, ↓z_mo_move, ↓z_move, ↓evW_tmp, ↓lkW_cons, ↓reduceIte, ↓z_mo_extract, ↓z_extract, ↓z_ex, ↓nthW_cons, Nat.reduceEqDiff, reduceCtorEq, Nat.reduceSub, ↓z_mo_assign, ↓z_assign, ↓z_om_nil, ↓z_seq_nrm, ↓z_m_seq, ↓z_m_region, ↓z_om_guard, ↓z_grd, ↓z_dst_s, ↓z_dst_0, ↓z_grdD_b, ↓z_gtt, ↓z_mo_fieldAddr, ↓z_fieldAddr, ↓y_fl53x0, ↓y_sz34, ne_eq, not_false_eq_true, ↓z_fa_ptr, ↓y_fl34x1, ↓y_sz3, ↓z_mo_load, ↓z_load, ↓y_ty3, ↓z_agTy_int, ↓loadW_ptr, ↓lkoW_cons, ↓z_rd_f, Nat.zero_add, ↓z_mo_binOp, ↓z_binOp, ↓z_bn_neq, ↓z_mo_pick, ↓z_pick, ↓z_pick_b, ↓z_m_cond, ↓z_cnd, ↓z_gdt, ↓evW_const, ↓constW_int, inR_i64, Int.reduceNeg, Int.reduceLE, and_self, ↓z_m_ret, ↓z_seq_rt, ↓z_blk_rt, ↓z_lp_rt, ↓z_end_rt, resLW, res1W, List.drop_zero, List.take_succ_cons, List.take_zero, ↓z_pack2, D.tup.injEq, List.cons.injEq, and_true, List.mem_cons, List.not_mem_nil, or_false, D.int.injEq, true_and, ↓z_m_skip, ↓z_m_region_d, ↓y_mix, z_ite, Classical.not_not, ↓z_gnt, ↓z_gtf, ↓constW_bool, ↓z_gft, z_gvar]); (try simp only [Int.toNat_natCast, Nat.mul_one, Bool.or_false, Bool.false_or, Bool.or_self, Bool.or_true])
    have hlk := untH_lk l l[i].p.o i (by omega)
    have hxe : xtAt c l i = match lkM (untH l i) l[i].p.o with | none => 0 | some u => if u = l[i].p.l then 0 else 4 := by
      rw [xtAt_in h]; unfold xtE
      rw [if_pos e1, if_pos g2, hlk]
      cases lastU (List.take i l) l[i].p.o <;> rfl
    have hun := untH_s h
    refine ⟨fun s => ⟨fun g3 => ?_, fun g3 => ?_⟩, fun s => ?_⟩
    · have hx : xtAt c l i = 4 := by
        rw [hxe]
        cases q : lkM (untH l i) l[i].p.o with
        | none => rw [q] at s; cases s
        | some u => rw [q] at g3; exact if_neg g3
      rw [vfR_bad hc h ha (by rw [hx]; decide), hx]
      exact ⟨⟨rfl, rfl⟩, by intro e he; (try simp only [List.mem_cons, List.not_mem_nil, or_false] at he); rcases he with rfl | rfl <;> rfl⟩
    all_goals
      have hx : xtAt c l i = 0 := by
        rw [hxe]
        cases q : lkM (untH l i) l[i].p.o with
        | none => rfl
        | some u => first | (rw [q] at g3; exact if_pos g3) | (rw [q] at s; simp at s)
      refine rgnm_x 10 [1] (by decide +kernel) ?_
      (simp -dsimp only [↓z_nmRE_cons, ↓z_nmR_bool, ↓z_nmR_int, ↓z_nmR_ptr, Nat.reduceAdd, Nat.reduceLT, Nat.reduceLeDiff, or_false, ↓z_nmR_tup, nmR_mpr, ↓z_nmR_oag, List.drop_zero, List.take_succ_cons, List.take_zero, ↓z_nmRS_int, ↓z_nmRS_sl, ↓z_nmRS_nil, ↓z_nmR_agg, nmRS_b, ↓z_nmR_rop, ↓z_nmR_sl, ↓z_nmRE_nil, and_self, ↓z_nmRO_cons, ↓z_nmRL_cons, ↓z_nmRL_byte, or_true, ↓z_nmRL_nil, ↓z_nmRO_nil, ↓z_splitO_cons, List.mem_cons, Nat.reduceEqDiff, List.not_mem_nil, ↓reduceIte, reduceCtorEq, ↓z_splitO_nil, ne_eq, Nat.zero_add, List.drop_succ_cons, ↓z_m_region, ↓z_om_plain, ↓z_mo_binOp, ↓z_binOp, ↓evW_const, ↓constW_int, inR_i64, Int.reduceNeg, Int.reduceLE, ↓z_mo_move, ↓z_move, ↓z_om_nil, ↓z_lp_nrm, true_and, ↓z_m_seq, ↓z_mo_callb, ↓z_callb, ↓z_evL_cons, ↓z_evL_nil, ↓z_len, ↓y_ty49, ↓z_mo_assign, ↓z_assign, ↓z_seq_nrm, ↓z_m_ret, ↓z_end_rt, resLW, res1W, ↓z_pack2, D.tup.injEq, List.cons.injEq, and_true, ↓z_mo_update, ↓evW_tmp, ↓z_drx_move, ↓z_drxS, ↓z_grd_none, ↓z_withE, ↓z_rd_tmp, ↓lkW_cons, ↓z_rd_nil, ↓z_ap_cons, ↓z_ap_nil, ↓z_apO_cons, ↓z_apO_nil, ↓z_or_move, ↓z_exD_all, ↓z_exD_all2, ↓z_exD_eq, ↓z_put, ↓z_drxK, ↓z_drx_fieldAddr, ↓z_or_fieldAddr, ↓z_fieldAddr, ↓y_fl53x0, ↓y_sz34, not_false_eq_true, ↓z_fa_ptr, ↓y_fl34x0, ↓y_sz3, ↓z_drx_load, ↓z_or_load, ↓z_load, ↓y_ty3, ↓z_agTy_int, ↓loadW_ptr, ↓lkoW_cons, ↓z_rd_f, ↓nthW_cons, ↓y_fl53x2, ↓y_sz39, ↓y_ty39, ↓z_agTy_arr, ↓z_rd_t, List.length_cons, List.length_map, ↓z_sub_cs, ↓z_sub_map, ↓z_exD_and, ↓y_fl34x2, Nat.reduceSub, ↓z_drx_store, ↓z_ptX, ↓z_noW_nil, ↓z_alW_nil, ↓z_cl_oag, List.length_take, ↓z_spl, ↓z_sps_map, ↓z_so_cons, ↓z_drx_nil, Bool.not_true]); (try simp only [Int.toNat_natCast, Nat.mul_one, Bool.or_false, Bool.false_or, Bool.or_self, Bool.or_true])
      have ew : List.take 0 (befD l i) ++ List.take 16 l[i].d ++ List.drop (0 + (List.map bD (List.take 16 l[i].d)).length) (befD l i) = l[i].d := by
        rw [ed, List.length_map, List.take_zero, List.nil_append, List.drop_of_length_le (by omega), List.append_nil]
      rw [ew]
      refine ⟨by omega, by omega, by omega, hM, ?_⟩
      refine upd_mk i [(23, .int .i64 i), (22, .int .i64 l.length), (21, .sl 22 l.length (List.flatMap xtC l)), (8, .mpr r), (7, .ptr 1 0), (2, .ptr 0 0), (1, .sl 22 l.length (List.flatMap xtC l))] [(1, l[i].d.map bD), (0, [.sl 1 c.hs.length (c.hs.map (D.int .i64)), .sl 1 c.ss.length (c.ss.map D.str), .int .i64 c.nd, .int .i64 c.bd])] (by (simp -dsimp only [↓lkoW_cons, Nat.reduceEqDiff, ↓reduceIte]); (try simp only [Int.toNat_natCast, Nat.mul_one, Bool.or_false, Bool.false_or, Bool.or_self, Bool.or_true])) hun (by omega) ?_
      (simp -dsimp only [↓z_wkE_cons, ↓lkW_cons, Nat.reduceEqDiff, ↓reduceIte, ↓z_wkE_nil, and_self, ↓z_wkO_cons, ↓lkoW_cons, reduceCtorEq, ↓z_wkO_nil, ↓z_put_none, ↓z_om_nil, ↓z_blk_nrm, ↓z_seq_nrm, ↓evW_tmp, ↓z_bn_add, ↓wrW_i64, inR_i64, Int.reduceNeg, ↓z_put, Nat.reduceLT, ↓z_wk, D.int.injEq, true_and, and_true, List.cons.injEq]); (try simp only [Int.toNat_natCast, Nat.mul_one, Bool.or_false, Bool.false_or, Bool.or_self, Bool.or_true])
      refine ⟨by omega, i + 1, ⟨by omega, fun j hj => ?_⟩, by omega, rfl, rfl, by rw [befD_s h]⟩
      by_cases e : j = i
      · subst e; exact hx
      · exact ha j (by omega)
  · have hlt : ((i : Int) < l.length) = False := eq_false (by omega)
    (simp -dsimp only [↓z_m_seq, ↓z_m_region, ↓z_om_plain, ↓z_mo_binOp, ↓z_binOp, ↓evW_tmp, ↓lkW_cons, ↓reduceIte, Nat.reduceEqDiff, ↓z_bn_lss, ↓z_put, Nat.reduceLT, ↓z_om_nil, ↓z_seq_nrm, ↓z_m_cond, ↓z_cnd, ↓z_gdt, hlt, ↓z_m_exit, ↓z_seq_ext, ↓z_lp_ext, ↓z_blk_ext, ↓z_mo_move, ↓z_move, ↓z_mo_callb, ↓z_callb, ↓z_evL_cons, ↓z_evL_nil, ↓z_len, ↓y_ty49, ↓z_ln_sl, ↓z_mo_assign, ↓z_assign, ↓evW_const, ↓constW_int, inR_i64, Int.reduceNeg, Int.reduceLE, and_self, ↓z_m_ret, ↓z_end_rt, resLW, res1W, ↓z_pack2, D.tup.injEq, List.cons.injEq, and_true, D.int.injEq, true_and]); (try simp only [Int.toNat_natCast, Nat.mul_one, Bool.or_false, Bool.false_or, Bool.or_self, Bool.or_true])
    have ei : i = l.length := by omega
    rw [vfR_all hc fun j hj => ha j (by omega)]
    exact ⟨⟨rfl, rfl⟩, by intro e he; simp at he; rcases he with rfl | rfl <;> rfl⟩
end Go.Abs

