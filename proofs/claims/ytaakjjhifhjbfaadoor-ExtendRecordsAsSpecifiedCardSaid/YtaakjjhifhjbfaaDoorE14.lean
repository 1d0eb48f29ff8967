/-
  EXTEND, thirteenth walks: the reference's chains of decisions.
-/
import Derived.Test.YtaakjjhifhjbfaaDoorE13
import Derived.Test.YtaakjjhifhjbfaaDoorE12
import Derived.Test.YtaakjjhifhjbfaaDoorE8
namespace Go.Abs
open Go.Proofs
theorem xt_part {l : List Xt} {j : Nat} (h : j < l.length) (o n : Nat) (ho : o + n ≤ 22) : ((List.flatMap xtC l).drop (j * 22 + o)).take n = ((xtC l[j]).drop o).take n := by
  rw [← xt_at h, List.drop_take, List.take_take, Nat.min_eq_left (by omega), List.drop_drop]
theorem xt_tP {l : List Xt} {j : Nat} (h : j < l.length) : ((List.flatMap xtC l).drop (j * 22 + 0)).take 5 = plC l[j].p := by
  rw [xt_part h 0 5 (by decide)]; rfl
theorem xt_tD {l : List Xt} {j : Nat} (h : j < l.length) : ((List.flatMap xtC l).drop (j * 22 + 6)).take 16 = l[j].d.map bD := by
  rw [xt_part h 6 16 (by decide)]
  show (l[j].d.map bD).take 16 = _
  rw [List.take_of_length_le (by rw [List.length_map, l[j].hd]; omega)]
theorem nth_xt0 (l : List Xt) (j : Nat) (k : D → Prop) : nthW (List.flatMap xtC l) (j * 22 + 0) k = ∃ h : j < l.length, k (.int .i64 l[j].p.o) := fm_nth xt_len1 l j 0 (by decide) (fun x => .int .i64 x.p.o) (fun _ => rfl) k
theorem nth_xt1 (l : List Xt) (j : Nat) (k : D → Prop) : nthW (List.flatMap xtC l) (j * 22 + 1) k = ∃ h : j < l.length, k (.int .i64 l[j].p.l) := fm_nth xt_len1 l j 1 (by decide) (fun x => .int .i64 x.p.l) (fun _ => rfl) k
theorem nth_xt2 (l : List Xt) (j : Nat) (k : D → Prop) : nthW (List.flatMap xtC l) (j * 22 + 2) k = ∃ h : j < l.length, k (.int .i64 l[j].p.u) := fm_nth xt_len1 l j 2 (by decide) (fun x => .int .i64 x.p.u) (fun _ => rfl) k
theorem nth_xt5 (l : List Xt) (j : Nat) (k : D → Prop) : nthW (List.flatMap xtC l) (j * 22 + 5) k = ∃ h : j < l.length, k (.int .i64 l[j].t) := fm_nth xt_len1 l j 5 (by decide) (fun x => .int .i64 x.t) (fun _ => rfl) k
theorem lastJ_s {l : List Xt} {o : Int} {j : Nat} (h : j < l.length) : lastJ l o (j + 1) = if l[j].p.o = o then (j : Int) else lastJ l o j := by
  show (if (l[j]?).map (fun x => x.p.o) = some o then (j : Int) else lastJ l o j) = _
  rw [List.getElem?_eq_getElem h, Option.map_some]
  by_cases g : l[j].p.o = o
  · rw [if_pos (by rw [g]), if_pos g]
  · rw [if_neg (by simpa using g), if_neg g]
set_option maxRecDepth 100000 in
set_option maxHeartbeats 900000 in
theorem fn_refVerify (c : Cn) (l : List Xt) (hl : l.length ≤ 1000) (hv : ∀ x ∈ l, x.p.v.length ≤ 1000) : Fn GK Tryd.prog 30 [.agg (cnC c), .sl 22 l.length (List.flatMap xtC l)] (.agg [.int .i64 (vfR c l).1, .int .i64 (vfR c l).2]) := by
  have hC := fn_refCheck GK c
  have hD := fun (x : Xt) (h : x ∈ l) => fn_refDecide c x.p x.t (hv x h)
  unfold cnC at *
  refine Fn.mk (c := _) Tryd.func30 rfl rfl Tryd.ntmps30 Tryd.results30 ?_
  (simp -dsimp only [bodyW, List.length_cons, List.length_nil, Nat.zero_add, Nat.reduceAdd, Nat.reduceLeDiff, wfL, ↓z_seq, ↓z_region, ↓z_ops_plain, ↓z_box, ↓evW_tmp, ↓z_lk_env, ↓reduceIte, ↓z_cl_agg, ↓z_nmC_cons, ↓z_mn'_sl, ↓z_mn'_int, ↓z_nmC_nil, and_self, ↓z_new, ↓z_nm_nil, Nat.reduceLT, ↓z_pg_env, ↓z_mn_agg, ↓z_mn_sl, ↓z_pg_env0, ↓z_put, ↓z_alloc, ↓y_zr68, ↓z_nm_cons, ↓z_pg_cons, ↓z_mn_ptr, reduceCtorEq, ↓z_pg_nil, ↓z_ops_nil, ↓z_seq_nrm, ↓z_load, ↓lkW_cons, Nat.reduceEqDiff, ↓y_ty25, ↓y_sz25, ↓z_agTy_st, ↓loadW_ptr, ↓lkoW_cons, ↓z_rd_t, ↓z_sub_c, ↓z_sub_nil, ↓z_callv, ↓evW_func, ↓z_evL_cons, ↓z_evL_nil, ↓z_fun0, ↓z_coeL_cons, ↓z_coe_oag, ↓z_coeC_cons, ↓z_coeS_sl, ↓z_coeS_int, ↓z_coeC_nil, ↓z_coeL_nil, true_and])
  intro _ _
  refine call_fnL hC rfl fun _ => ?_
  (simp -dsimp only [↓z_put, Nat.reduceLT, ↓z_ops_plain, ↓z_assign, ↓evW_tmp, ↓lkW_cons, ↓reduceIte, ↓z_ops_nil, ↓z_seq_nrm, ↓z_seq, ↓z_region, ↓z_move, ↓z_binOp, ↓evW_const, ↓constW_int, inR_i64, Int.reduceNeg, Int.reduceLE, and_self, ↓z_bn_neq, ↓z_cond, ↓z_cnd, ↓z_gdt, ne_eq, Nat.reduceEqDiff, ↓z_build, ↓y_ty68, ↓z_blTy_st, ↓y_zr68, ↓z_bld_cons, ↓y_fl68x1, ↓y_sz30, ↓z_cl_int, List.length_cons, List.length_nil, Nat.zero_add, Nat.reduceAdd, Nat.reduceLeDiff, ↓spsW_cons, reduceCtorEq, Nat.reduceSub, ↓drW_cons, ↓drW_nil, ↓z_cat_nil_r, ↓z_bld_nil, ↓z_store, ↓y_sz68, ↓z_cl_oag, ↓z_store_ptr, ↓lkoW_cons, ↓z_so_cons, ↓z_put_none, ↓z_ret, ↓z_seq_rt, ↓z_end_rt, resLW, res1W, ↓z_agTy_st, ↓z_coeL_cons, ↓z_coeL_nil, ↓z_pack1, ↓loadW_ptr, ↓z_rd_t, ↓z_sub_c, ↓z_sub_nil, ↓z_coe_oag, ↓z_coeC_cons, ↓z_coeS_int, ↓z_coeC_nil, D.agg.injEq, List.cons.injEq, D.int.injEq, true_and, and_true, ↓z_skip, ↓z_alloc, ↓y_zr39, ↓z_new, ↓z_nm_cons, ↓z_nmC_cons, ↓z_mn'_int, ↓z_nmC_nil, ↓z_mn'_sl, ↓z_nm_nil, ↓z_pg_cons, ↓z_mn_bool, ↓z_mn_int, ↓z_mn_oag, ↓z_mnL_sl, ↓z_mnL_int, ↓z_mnL_nil, ↓z_mn_ptr, ↓z_mn_agg, ↓z_mn_sl, ↓z_pg_nil, ↓z_block, ↓z_loop, z_ite, Classical.not_not])
  refine ⟨fun c0 => ?_, fun c0 => ?_⟩
  · have hn : ¬ okC c := fun g => c0 (chkC_0.2 g)
    rw [vfR_no hn, chkC_no hn]
    exact ⟨rfl, rfl, rfl⟩
  have hc : okC c := chkC_0.1 c0
  refine hold_intro ⟨[], Nat, fun i => ⟨108, 3, [(7, .int .i64 i), (6, .ptr 2 0), (4, .ptr 1 0), (2, .ptr 0 0), (1, .sl 22 l.length (List.flatMap xtC l))],
    [(2, (befD l i).map bD), (1, [.int .i64 0, .int .i64 0]), (0, [.sl 1 c.hs.length (c.hs.map (D.int .i64)), .sl 1 c.ss.length (c.ss.map D.str), .int .i64 c.nd, .int .i64 c.bd])]⟩,
    fun i => i ≤ l.length ∧ ∀ j, j < i → xtAt c l j = 0, fun i => l.length - i, ?_, ?_⟩
  · (simp -dsimp only [↓z_ad_nil, ↓z_wk, ↓z_wkE_cons, ↓lkW_cons, ↓reduceIte, D.int.injEq, true_and, Nat.reduceEqDiff, Nat.zero_add, Nat.reduceAdd, reduceCtorEq, ↓z_wkE_nil, and_self, and_true, ↓z_wkO_cons, ↓lkoW_cons, ↓z_wkO_nil]); (try simp only [Int.toNat_natCast, Nat.mul_one, Bool.or_false, Bool.false_or, Bool.or_self, Bool.or_true])
    exact ⟨0, ⟨by omega, fun j hj => by omega⟩, rfl, rfl⟩
  rintro i ⟨hi, ha⟩
  have hb16 := befD_len l i
  by_cases h : i < l.length
  · have hl2 := xt_len l
    have hlt : ((i : Int) < l.length) = True := eq_true (by omega)
    have hd16 := l[i].hd
    have hsP := xt_tP h
    have hsD := xt_tD h
    (simp -dsimp only [↓z_seq, ↓z_region, ↓z_ops_plain, ↓z_move, ↓evW_tmp, ↓lkW_cons, ↓reduceIte, ↓z_put, Nat.reduceLT, Nat.reduceEqDiff, ↓z_callb, ↓z_evL_cons, ↓z_evL_nil, ↓z_len, ↓y_ty49, ↓z_ln_sl, ↓z_binOp, ↓z_bn_lss, ↓z_ops_nil, ↓z_seq_nrm, ↓z_cond, ↓z_cnd, ↓z_gdt, hlt, ↓z_skip, ↓z_block, ↓z_region_d, ↓y_mix, true_and])
    have hR := fn_refRecord (befD l i) hb16 l[i].p l[i].t (hv _ (List.getElem_mem h))
    have hD := hD l[i] (List.getElem_mem h)
    have eb : List.take 16 (befD l i) = befD l i := List.take_of_length_le (by omega)
    have l16 := recD_len (befD l i) l[i].p l[i].t
    refine rgn_d (by decide +kernel) ?_
    (simp -dsimp only [↓z_drw_load, ↓z_drwS, ↓z_grd_none, ↓z_withE, ↓z_rd_tmp, ↓lkW_cons, Nat.reduceEqDiff, ↓reduceIte, ↓z_rd_nil, ↓z_ap_cons, ↓z_ap_nil, ↓z_or_load, ↓z_load, ↓evW_tmp, ↓y_ty39, ↓y_sz39, ↓z_agTy_arr, ↓loadW_ptr, ↓lkoW_cons, ↓z_rd_t, Nat.zero_add, List.length_map, ↓z_sub_map, List.drop_zero, and_true, ↓z_exD_all, ↓z_exD_and, ↓z_exD_eq, ↓z_put, Nat.reduceLT, ↓z_drwK, ↓z_drw_move, ↓z_or_move, ↓z_move, ↓z_drw_indexAddr, ↓z_or_indexAddr, ↓z_indexAddr, ↓y_ty49, ↓z_elTy_sl, ↓y_sz53, ↓z_ix_sl, true_and, ↓z_drw_fieldAddr, ↓z_or_fieldAddr, ↓z_fieldAddr, ↓y_fl53x0, ↓y_sz34, ne_eq, reduceCtorEq, not_false_eq_true, ↓z_fa_rop, ↓y_ty34, ↓z_agTy_st, ↓loadW_rop, hl2, z_sub, ↓y_fl53x1, ↓y_sz3, ↓y_ty3, ↓z_agTy_int, ↓z_rd_f, nth_xt5, ↓z_exD_ex, ↓z_drw_callv, ↓z_rd_func]); (try simp only [Int.toNat_natCast])
    refine ⟨by omega, by omega, by omega, by omega, by omega, by omega, h, ?_⟩
    refine ex_mk (.agg ((recD (befD l i) l[i].p l[i].t).map bD)) (fun E => by
      (simp -dsimp only [↓z_ap_cons, ↓z_ap_nil, ↓z_callv, ↓evW_func, ↓z_evL_cons, ↓evW_tmp, ↓lkW_cons, ↓reduceIte, Nat.reduceEqDiff, ↓z_evL_nil, ↓z_fun0, ↓z_coeL_cons, ↓z_coe_oag, ↓z_coeC_bytes, ↓z_coe_agg, ↓z_coe_int, ↓z_coeL_nil]); (try simp only [Int.toNat_natCast, Nat.mul_one, Bool.or_false, Bool.false_or, Bool.or_self, Bool.or_true])
      exact call_fnL (hR.inp (by rw [eb, hsP])) (flS_bytes _) fun _ => ⟨rfl, rfl⟩) ?_
    (simp -dsimp only [↓z_put, Nat.reduceLT, ↓z_drwK, ↓z_drw_move, ↓z_drwS, ↓z_grd_none, ↓z_withE, ↓z_rd_tmp, ↓lkW_cons, Nat.reduceEqDiff, ↓reduceIte, ↓z_rd_nil, ↓z_ap_cons, ↓z_ap_nil, ↓z_or_move, ↓z_move, ↓evW_tmp, and_true, ↓z_exD_all, ↓z_exD_eq, ↓z_drw_indexAddr, ↓z_or_indexAddr, ↓z_indexAddr, ↓y_ty49, ↓z_elTy_sl, ↓y_sz53, ↓z_ix_sl, true_and, ↓z_exD_and, ↓z_drw_fieldAddr, ↓z_or_fieldAddr, ↓z_fieldAddr, ↓y_fl53x2, ↓y_sz39, ne_eq, reduceCtorEq, not_false_eq_true, ↓z_fa_rop, ↓z_drw_load, ↓z_or_load, ↓z_load, ↓y_ty39, ↓z_agTy_arr, ↓loadW_rop, ↓z_rd_t, hl2, z_sub, ↓z_drw_binOp, ↓z_or_binOp, ↓z_binOp, ↓z_bn_aneq, ↓y_fk39, ↓kdM_bytes, ↓z_drw_nil, ↓z_seq_nrm, ↓z_cond, ↓z_cnd, ↓z_gnt, ↓z_geqf, ↓z_seq, ↓z_region, ↓z_ops_plain, ↓z_build, ↓y_ty68, ↓z_blTy_st, ↓y_zr68, ↓z_bld_cons, ↓y_fl68x0, ↓y_sz3, ↓z_cl_int, List.length_cons, List.length_nil, Nat.zero_add, Nat.reduceAdd, Nat.reduceLeDiff, ↓spsW_cons, ↓drW_cons, Nat.reduceSub, ↓catW_cons, ↓catW_nil, ↓y_fl68x1, ↓y_sz30, ↓evW_const, ↓constW_int, inR_i64, Int.reduceNeg, Int.reduceLE, and_self, ↓drW_nil, ↓z_cat_nil_r, ↓z_bld_nil, ↓z_store, ↓y_sz68, ↓z_cl_oag, ↓z_store_ptr, ↓lkoW_cons, ↓z_so_cons, ↓z_put_none, ↓z_ops_nil, ↓z_ret, ↓z_seq_rt, ↓z_blk_rt, ↓z_lp_rt, ↓z_end_rt, resLW, res1W, hsP, ↓z_agTy_st, ↓z_coeL_cons, ↓z_coeL_nil, ↓z_pack1, ↓loadW_ptr, ↓z_sub_c, ↓z_sub_nil, ↓z_coe_oag, ↓z_coeC_cons, ↓z_coeS_int, ↓z_coeC_nil, D.agg.injEq, List.cons.injEq, D.int.injEq, ↓z_skip, ↓z_region_d, ↓y_mix]); (try simp only [Int.toNat_natCast])
    rw [hsD, kdM_bytes]
    refine ⟨by omega, by omega, by omega, l16, hd16, fun g => ?_, fun g => ?_⟩
    · have hx : xtAt c l i = 23 := by
        rw [xtAt_in h]; unfold xtE
        exact if_neg fun e => g (congrArg _ e.symm)
      rw [vfR_bad hc h ha (by rw [hx]; decide), hx]
      exact ⟨by rfl, rfl, rfl⟩
    have e1 : l[i].d = recD (befD l i) l[i].p l[i].t := (bDs_inj g).symm
    refine rgn_x 13 [] (by decide +kernel) ?_
    (simp -dsimp only [↓z_nmRE_cons, ↓z_nmR_bool, ↓z_nmR_agg, ↓z_nmR_rop, ↓z_nmR_int, ↓z_nmR_sl, ↓z_nmR_oag, ↓z_nmR_ptr, Nat.reduceLT, Nat.reduceLeDiff, or_false, ↓z_nmRE_nil, and_self, and_true, true_and, ↓z_nmRO_cons, ↓z_nmRL_byte, ↓z_nmRL_cons, ↓z_nmRL_nil, ↓z_nmRO_nil, ↓z_splitO_cons, List.not_mem_nil, ↓reduceIte, ↓z_splitO_nil, List.take_succ_cons, List.take_zero, hsP, List.drop_succ_cons, List.drop_zero, ↓z_seq, ↓z_region, ↓z_ops_plain, ↓z_fieldAddr, ↓y_fl68x1, ↓y_sz30, ne_eq, reduceCtorEq, not_false_eq_true, ↓z_load, ↓y_ty30, ↓z_agTy_int, ↓z_binOp, ↓evW_const, ↓constW_int, inR_i64, Int.reduceNeg, Int.reduceLE, ↓z_ops_nil, ↓z_seq_nrm, ↓z_cond, ↓z_move, ↓z_build, ↓y_ty68, ↓z_blTy_st, ↓y_zr68, ↓z_bld_cons, ↓y_fl68x0, ↓y_sz3, Nat.zero_add, List.length_cons, List.length_nil, Nat.reduceAdd, ↓spsW_cons, ↓drW_cons, Nat.reduceSub, ↓z_bld_nil, ↓z_store, ↓y_sz68, ↓z_put_none, ↓z_ret, ↓z_seq_rt, ↓z_blk_rt, ↓z_lp_rt, ↓z_end_rt, resLW, res1W, ↓z_agTy_st, ↓z_coeL_cons, ↓z_coeL_nil, ↓z_pack1, z_sps, ↓z_skip, ↓z_assign, ↓z_block, ↓z_loop, ↓z_lp_nrm, ↓z_callb, ↓z_evL_cons, ↓z_evL_nil, ↓z_len, ↓y_ty49, ↓evW_tmp, ↓z_drx_load, ↓z_drxS, ↓z_grd_none, ↓z_withE, ↓z_rd_tmp, ↓lkW_cons, Nat.reduceEqDiff, ↓z_rd_nil, ↓z_ap_cons, ↓z_ap_nil, ↓z_apO_cons, ↓z_apO_nil, ↓z_or_load, ↓y_ty25, ↓y_sz25, ↓loadW_ptr, ↓lkoW_cons, ↓z_rd_t, ↓z_sub_c, ↓z_sub_nil, ↓z_exD_all, ↓z_exD_all2, ↓z_exD_eq, ↓z_nmRS_sl, ↓z_nmRS_int, ↓z_nmRS_nil, ↓z_put, ↓z_drxK, ↓z_drx_move, ↓z_or_move, ↓z_drx_indexAddr, ↓z_or_indexAddr, ↓z_indexAddr, ↓z_elTy_sl, ↓y_sz53, ↓z_ix_sl, ↓z_exD_and, ↓z_drx_fieldAddr, ↓z_or_fieldAddr, ↓y_fl53x0, ↓y_sz34, ↓z_fa_rop, ↓y_ty34, ↓loadW_rop, hl2, z_sub, ↓y_fl53x1, ↓y_ty3, ↓z_rd_f, nth_xt5, ↓z_exD_ex, ↓z_drx_callv]); (try simp only [Int.toNat_natCast])
    refine ⟨nmRS_bD _ _, by omega, by omega, by omega, by omega, by omega, h, cv_ex ?_⟩
    (simp -dsimp only [↓z_drxA_callv, ↓z_grd_none, ↓z_withE, ↓z_rd_func, ↓z_rd_tmp, ↓lkW_cons, Nat.reduceEqDiff, ↓reduceIte, ↓z_rd_nil]); (try simp only [Int.toNat_natCast, Nat.mul_one, Bool.or_false, Bool.false_or, Bool.or_self, Bool.or_true])
    refine ex_mk (.agg [.int .i64 (dcN c l[i].p l[i].t), .int .i64 (dcE c l[i].p l[i].t)]) (fun E X => by
      (simp -dsimp only [↓z_ap_cons, ↓z_ap_nil, ↓z_apO_cons, ↓z_apO_nil, ↓z_callv, ↓evW_func, ↓z_evL_cons, ↓evW_tmp, ↓lkW_cons, ↓reduceIte, Nat.reduceEqDiff, ↓z_evL_nil, ↓z_fun0, ↓z_coeL_cons, ↓z_coe_oag, ↓z_coeC_cons, ↓z_coeS_sl, ↓z_coeS_int, ↓z_coeC_nil, ↓z_coe_agg, ↓z_coe_int, ↓z_coeL_nil]); (try simp only [Int.toNat_natCast, Nat.mul_one, Bool.or_false, Bool.false_or, Bool.or_self, Bool.or_true])
      exact call_fnL (hD.inp (by rw [hsP])) (by intro d hd; simp at hd; rcases hd with rfl | rfl <;> rfl) fun _ => ⟨rfl, rfl⟩) ?_
    (simp -dsimp only [↓z_nmR_agg, ↓z_put, Nat.reduceLT, ↓z_drxK, ↓z_drx_alloc, ↓y_zr68, ↓z_nmRL_cons, ↓z_nmR_int, ↓z_nmRL_nil, and_self, ↓z_drx_nil, ↓z_apO_cons, ↓z_apO_nil, ↓lkW_cons, ↓reduceIte, Nat.reduceEqDiff, ↓z_cl_agg, List.length_cons, List.length_nil, Nat.zero_add, Nat.reduceAdd, ↓z_store_ptr, ↓lkoW_cons, Nat.reduceLeDiff, ↓spsW_cons, ↓drW_cons, reduceCtorEq, Nat.reduceSub, ↓drW_nil, ↓z_cat_nil_r, ↓z_so_cons, ↓evW_tmp, ↓z_fa_ptr, ↓loadW_ptr, ↓z_rd_f, ↓nthW_cons, ↓z_bn_neq, ↓z_cnd, ↓z_gdt, ne_eq, ↓z_cl_int, ↓catW_cons, ↓catW_nil, ↓z_cl_oag, List.take_succ_cons, List.take_zero, List.cons_append, List.nil_append, List.drop_succ_cons, List.drop_zero, List.append_nil, ↓z_rd_t, ↓z_sub_c, ↓z_sub_nil, ↓z_coe_oag, ↓z_coeC_cons, ↓z_coeS_int, ↓z_coeC_nil, D.agg.injEq, List.cons.injEq, D.int.injEq, true_and, and_true, z_ite, Classical.not_not]); (try simp only [Int.toNat_natCast, Nat.mul_one, Bool.or_false, Bool.false_or, Bool.or_self, Bool.or_true])
    refine ⟨fun g2 => ?_, fun g2 => ?_⟩
    · have hx : xtAt c l i = dcE c l[i].p l[i].t := by
        rw [xtAt_in h]; unfold xtE
        rw [if_pos e1, if_neg g2]
      rw [vfR_bad hc h ha (by rw [hx]; exact g2), hx]
      exact ⟨by rfl, rfl, rfl⟩
    refine hold_intro ⟨[], Nat, fun j => ⟨108, 4, [(10, .int .i64 j), (9, .int .i64 (lastJ l l[i].p.o j)), (7, .int .i64 i), (6, .ptr 2 0), (4, .ptr 1 0), (2, .ptr 0 0), (1, .sl 22 l.length (List.flatMap xtC l))],
      [(2, (befD l i).map bD), (1, [.int .i64 0, .int .i64 0]), (0, [.sl 1 c.hs.length (c.hs.map (D.int .i64)), .sl 1 c.ss.length (c.ss.map D.str), .int .i64 c.nd, .int .i64 c.bd])]⟩,
      fun j => j ≤ i, fun j => i - j, ?_, ?_⟩
    · (simp -dsimp only [↓z_ad_nil, ↓z_wk, ↓z_wkE_cons, ↓lkW_cons, ↓reduceIte, D.int.injEq, true_and, Nat.reduceEqDiff, Int.reduceNeg, ↓z_wkE_nil, and_self, and_true, ↓z_wkO_cons, ↓lkoW_cons, reduceCtorEq, ↓z_wkO_nil]); (try simp only [Int.toNat_natCast, Nat.mul_one, Bool.or_false, Bool.false_or, Bool.or_self, Bool.or_true])
      exact ⟨0, by omega, rfl, rfl⟩
    intro j hj
    have hjl := lastJ_le l l[i].p.o j
    by_cases hji : j < i
    · have hlj : ((j : Int) < (i : Int)) = True := eq_true (by omega)
      (simp -dsimp only [↓z_seq, ↓z_region, ↓z_ops_plain, ↓z_move, ↓evW_tmp, ↓lkW_cons, ↓reduceIte, ↓z_put, Nat.reduceLT, Nat.reduceEqDiff, ↓z_binOp, ↓z_bn_lss, ↓z_ops_nil, ↓z_seq_nrm, ↓z_cond, ↓z_cnd, ↓z_gdt, hlj, ↓z_skip, ↓z_block, ↓z_region_d, ↓y_mix, true_and]); (try simp only [Int.toNat_natCast, Nat.mul_one, Bool.or_false, Bool.false_or, Bool.or_self, Bool.or_true])
      refine rgn_q (by decide +kernel) rfl ?_
      (simp -dsimp only [↓z_ops_plain, ↓z_move, ↓evW_tmp, ↓lkW_cons, Nat.reduceEqDiff, ↓reduceIte, ↓z_put, Nat.reduceLT, ↓z_indexAddr, ↓y_ty49, ↓z_elTy_sl, ↓y_sz53, ↓z_ix_sl, ↓z_fieldAddr, ↓y_fl53x0, ↓y_sz34, ne_eq, reduceCtorEq, not_false_eq_true, ↓z_fa_rop, ↓y_fl34x0, ↓y_sz3, ↓z_load, ↓y_ty3, ↓z_agTy_int, ↓loadW_rop, ↓z_rd_f, ↓z_binOp, ↓z_ops_nil, ↓z_seq_nrm, ↓z_cond, ↓z_region, ↓z_assign, ↓z_blk_nrm, ↓evW_const, ↓constW_int, inR_i64, Int.reduceNeg, Int.reduceLE, and_self, ↓z_bn_add, ↓wrW_i64, ↓z_lp_nrm, ↓z_wk, ↓z_wkE_cons, D.int.injEq, true_and, ↓z_wkE_nil, and_true, ↓z_wkO_cons, ↓lkoW_cons, ↓z_wkO_nil, ↓z_skip, nth_xt0, ↓z_bn_eql, ↓z_cnd, ↓z_gdt, z_ite]); (try simp only [Int.toNat_natCast])
      have hs := lastJ_s (l := l) (o := l[i].p.o) (show j < l.length by omega)
      refine ⟨by omega, by omega, by omega, by omega, by omega, h, fun g3 => ⟨by omega, j + 1, by omega, by omega, by omega, ?_⟩, fun g3 => ⟨by omega, j + 1, by omega, by omega, by omega, ?_⟩⟩
      · rw [hs, if_pos g3]
      · rw [hs, if_neg g3]
    · have hlj : ((j : Int) < (i : Int)) = False := eq_false (by omega)
      have ej : j = i := by omega
      (simp -dsimp only [↓z_seq, ↓z_region, ↓z_ops_plain, ↓z_move, ↓evW_tmp, ↓lkW_cons, ↓reduceIte, ↓z_put, Nat.reduceLT, Nat.reduceEqDiff, ↓z_binOp, ↓z_bn_lss, ↓z_ops_nil, ↓z_seq_nrm, ↓z_cond, ↓z_cnd, ↓z_gdt, hlj, ↓z_exit, ↓z_seq_ext, ↓z_lp_ext, ↓z_blk_ext, ↓z_region_d, ↓y_mix, true_and]); (try simp only [Int.toNat_natCast, Nat.mul_one, Bool.or_false, Bool.false_or, Bool.or_self, Bool.or_true])
      refine rgn_q (by decide +kernel) rfl ?_
      (simp -dsimp only [↓z_ops_plain, ↓z_move, ↓evW_tmp, ↓lkW_cons, Nat.reduceEqDiff, ↓reduceIte, ↓z_put, Nat.reduceLT, ↓z_binOp, ↓evW_const, ↓constW_int, inR_i64, Int.reduceNeg, Int.reduceLE, and_self, ↓z_bn_geq, ↓z_ops_guard, ↓z_grd, ↓z_dst_s, ↓z_dst_0, ↓z_grdD_b, ↓z_gdt, ↓z_gtt, ↓z_indexAddr, ↓y_ty49, ↓z_elTy_sl, ↓y_sz53, ↓z_ix_sl, ↓z_fieldAddr, ↓y_fl53x0, ↓y_sz34, ne_eq, reduceCtorEq, not_false_eq_true, ↓z_fa_rop, ↓y_fl34x2, ↓y_sz3, ↓z_load, ↓y_ty3, ↓z_agTy_int, ↓loadW_rop, ↓z_rd_f, ↓y_fl34x1, ↓z_pick, ↓z_pick_b, ↓z_ops_nil, ↓z_seq_nrm, ↓z_cond, ↓z_seq, ↓z_region, ↓z_build, ↓y_ty68, ↓z_blTy_st, ↓y_zr68, ↓z_bld_cons, ↓y_fl68x0, ↓z_cl_int, List.length_cons, List.length_nil, Nat.zero_add, Nat.reduceAdd, Nat.reduceLeDiff, ↓spsW_cons, ↓drW_cons, Nat.reduceSub, ↓catW_cons, ↓catW_nil, ↓y_fl68x1, ↓y_sz30, ↓drW_nil, ↓z_cat_nil_r, ↓z_bld_nil, ↓z_store, ↓y_sz68, ↓z_cl_oag, ↓z_store_ptr, ↓lkoW_cons, ↓z_so_cons, ↓z_put_none, ↓z_ret, ↓z_seq_rt, ↓z_blk_rt, ↓z_lp_rt, ↓z_end_rt, resLW, res1W, ↓z_agTy_st, ↓z_coeL_cons, ↓z_coeL_nil, ↓z_pack1, ↓loadW_ptr, ↓z_rd_t, ↓z_sub_c, ↓z_sub_nil, ↓z_coe_oag, ↓z_coeC_cons, ↓z_coeS_int, ↓z_coeC_nil, D.agg.injEq, List.cons.injEq, D.int.injEq, true_and, and_true, ↓z_skip, ↓y_fl53x2, ↓y_sz39, ↓y_ty39, ↓z_agTy_arr, hl2, ↓z_cl_agg, List.length_map, ↓z_blk_nrm, ↓z_bn_add, ↓wrW_i64, ↓z_assign, ↓z_lp_nrm, ↓z_wk, ↓z_wkE_cons, ↓z_wkE_nil, ↓z_wkO_cons, ↓z_wkO_nil, z_sps, List.take_zero, List.nil_append, z_sub, List.length_take, List.length_drop, nth_xt1, nth_xt2, ↓z_bn_neq, ↓z_cnd, z_ite, Classical.not_not, ↓z_gnt, ↓z_gtf, ↓constW_bool, ↓z_gft]); (try simp only [Int.toNat_natCast])
      subst ej
      have hxe : xtAt c l j = match lastU (l.take j) l[j].p.o with | none => 0 | some u => if u = l[j].p.l then 0 else 4 := by
        rw [xtAt_in h]; unfold xtE
        rw [if_pos e1, if_pos g2]
        cases lastU (l.take j) l[j].p.o <;> rfl
      have tl : xtAt c l j = 0 → List.take 16 (List.drop (j * 22 + 6) (List.flatMap xtC l)) ++ List.drop 16 (List.map bD (befD l j)) = List.map bD (befD l (j + 1)) := fun _ => by
        rw [hsD, befD_s h, List.drop_of_length_le (by rw [List.length_map]; omega), List.append_nil]
      have al : xtAt c l j = 0 → ∀ k, k < j + 1 → xtAt c l k = 0 := fun hx k hk => by
        by_cases e : k = j
        · subst e; exact hx
        · exact ha k (by omega)
      rcases lastJ_ok l l[j].p.o j (by omega) with ⟨q1, q2⟩ | ⟨q, hq, hq2, q1, q2⟩
      · have hx : xtAt c l j = 0 := by rw [hxe, q2]
        exact ⟨fun g3 => by omega, fun _ => ⟨by omega, by omega, by omega, by omega, by omega, by omega, j + 1, ⟨by omega, al hx⟩, by omega, by omega, tl hx⟩⟩
      · have et : (lastJ l l[j].p.o j).toNat = q := by omega
        simp only [et]
        refine ⟨fun _ => ⟨by omega, by omega, by omega, by omega, by omega, h, fun g3 => ?_, fun g3 => ?_⟩, fun g3 => by omega⟩
        · have hx : xtAt c l j = 4 := by rw [hxe, q2]; exact if_neg g3
          rw [vfR_bad hc h ha (by rw [hx]; decide), hx]
          exact ⟨by rfl, rfl, rfl⟩
        · have hx : xtAt c l j = 0 := by rw [hxe, q2]; exact if_pos g3
          exact ⟨by omega, by omega, by omega, by omega, by omega, by omega, j + 1, ⟨by omega, al hx⟩, by omega, by omega, tl hx⟩
  · have hlt : ((i : Int) < l.length) = False := eq_false (by omega)
    (simp -dsimp only [↓z_seq, ↓z_region, ↓z_ops_plain, ↓z_move, ↓evW_tmp, ↓lkW_cons, ↓reduceIte, ↓z_put, Nat.reduceLT, Nat.reduceEqDiff, ↓z_callb, ↓z_evL_cons, ↓z_evL_nil, ↓z_len, ↓y_ty49, ↓z_ln_sl, ↓z_binOp, ↓z_bn_lss, ↓z_ops_nil, ↓z_seq_nrm, ↓z_cond, ↓z_cnd, ↓z_gdt, hlt, ↓z_exit, ↓z_seq_ext, ↓z_lp_ext, ↓z_blk_ext, ↓z_build, ↓y_ty68, ↓z_blTy_st, ↓y_zr68, ↓z_bld_cons, ↓y_fl68x0, ↓y_sz3, ↓z_cl_int, List.length_cons, List.length_nil, Nat.zero_add, Nat.reduceAdd, Nat.reduceLeDiff, ↓spsW_cons, ↓drW_cons, reduceCtorEq, Nat.reduceSub, ↓catW_cons, ↓catW_nil, ↓z_bld_nil, ↓z_store, ↓y_sz68, ↓z_cl_oag, ↓z_store_ptr, ↓lkoW_cons, ↓drW_nil, ↓z_cat_nil_r, ↓z_so_cons, ↓z_put_none, ↓z_ret, ↓z_end_rt, resLW, res1W, ↓z_agTy_st, ↓z_coeL_cons, ↓z_coeL_nil, ↓z_pack1, ↓loadW_ptr, ↓z_rd_t, ↓z_sub_c, ↓z_sub_nil, ↓z_coe_oag, ↓z_coeC_cons, ↓z_coeS_int, ↓z_coeC_nil, D.agg.injEq, List.cons.injEq, D.int.injEq, true_and, and_true]); (try simp only [Int.toNat_natCast, Nat.mul_one, Bool.or_false, Bool.false_or, Bool.or_self, Bool.or_true])
    have ei : i = l.length := by omega
    rw [vfR_all hc fun j hj => ha j (by omega)]
    exact ⟨by rfl, rfl, rfl⟩
end Go.Abs

