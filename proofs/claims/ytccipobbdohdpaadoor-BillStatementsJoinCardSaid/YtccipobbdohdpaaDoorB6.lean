/-
  BILL, fifth walks: totals by reasons.
-/
import Derived.Test.YtccipobbdohdpaaDoorB5
namespace Go.Abs
open Go.Proofs
theorem takeS {α : Type} {l : List α} {i : Nat} (h : i < l.length) : l.take (i + 1) = l.take i ++ [l[i]] := by simp
def toL (acc : Int) (ps : List Po) (x f t : Int) : List Int := if spE acc ps x f t = 0 then (List.range 8).map fun (w : Nat) => totZ x f t w ps else []
/-- What has come for a reason when i postings of the account have come. -/
def toP (x f t : Int) (ps : List Po) (i : Nat) (w : Nat) : Int := ((((ofP x t ps).take i).filter fun y => decide (y.2.w = (w : Int)) && decide (f ≤ y.2.t)).map fun y => gotP x y.2).sum
def toPL (x f t : Int) (ps : List Po) (i : Nat) : List Int := (List.range 8).map (toP x f t ps i)
theorem toP_s {x f t : Int} {ps : List Po} {i w : Nat} (h : i < (ofP x t ps).length) : toP x f t ps (i + 1) w = toP x f t ps i w + if (ofP x t ps)[i].2.w = (w : Int) ∧ f ≤ (ofP x t ps)[i].2.t then gotP x (ofP x t ps)[i].2 else 0 := by
  unfold toP
  rw [takeS h, List.filter_append, List.map_append, sum_app]
  congr 1
  split
  · rename_i g; rw [List.filter_cons_of_pos (by simpa using g)]; simp
  · rename_i g; rw [List.filter_cons_of_neg (by simp only [Bool.and_eq_true, decide_eq_true_eq]; exact g)]; simp
theorem toP_le {acc x f t : Int} {ps : List Po} (hb : BkOk acc ps) (i w : Nat) : -10995116277760000 ≤ toP x f t ps i w ∧ toP x f t ps i w ≤ 10995116277760000 := by
  unfold toP
  have hl : (((ofP x t ps).take i).filter fun y => decide (y.2.w = (w : Int)) && decide (f ≤ y.2.t)).length ≤ 10000 := Nat.le_trans (List.length_filter_le _ _) (Nat.le_trans (List.length_take_le' _ _) (Nat.le_trans ofP_le hb.len))
  have h1 := sum_le (f := fun y : Nat × Po => gotP x y.2) (m := 1099511627776) (l := ((ofP x t ps).take i).filter fun y => decide (y.2.w = (w : Int)) && decide (f ≤ y.2.t)) fun y hy => by
    obtain ⟨h, e, _⟩ := ofP_mem (List.mem_of_mem_take (List.mem_filter.1 hy).1)
    rw [e]; exact got_le (hb.ok _ (List.getElem_mem h))
  have h3 : ((((ofP x t ps).take i).filter fun y => decide (y.2.w = (w : Int)) && decide (f ≤ y.2.t)).length : Int) * 1099511627776 ≤ 10000 * 1099511627776 := Int.mul_le_mul_of_nonneg_right (by omega) (by decide)
  omega
theorem toPL_len {x f t : Int} {ps : List Po} {i : Nat} : (toPL x f t ps i).length = 8 := by simp [toPL]
theorem toPL_s {x f t : Int} {ps : List Po} {i : Nat} (h : i < (ofP x t ps).length) {w : Nat} (hw : (ofP x t ps)[i].2.w = (w : Int)) (h8 : w < 8) (g : f ≤ (ofP x t ps)[i].2.t) :
    (toPL x f t ps i).take w ++ [toP x f t ps i w + gotP x (ofP x t ps)[i].2] ++ (toPL x f t ps i).drop (w + 1) = toPL x f t ps (i + 1) := by
  have hset := List.set_eq_take_append_cons_drop (l := toPL x f t ps i) (i := w) (a := toP x f t ps i w + gotP x (ofP x t ps)[i].2)
  rw [if_pos (by rw [toPL_len]; exact h8)] at hset
  rw [List.append_assoc, List.singleton_append, ← hset]
  apply List.ext_getElem
  · simp [toPL]
  · intro k h1 h2
    rw [List.getElem_set]
    simp only [toPL, List.getElem_map, List.getElem_range, toP_s h]
    split
    · rename_i e; subst e; rw [if_pos ⟨hw, g⟩]
    · rename_i e; rw [if_neg (fun h => e (by omega)), Int.add_zero]
theorem toPL_n {x f t : Int} {ps : List Po} {i : Nat} (h : i < (ofP x t ps).length) (g : ¬ f ≤ (ofP x t ps)[i].2.t) : toPL x f t ps (i + 1) = toPL x f t ps i := by
  unfold toPL
  refine List.map_congr_left fun w _ => ?_
  rw [toP_s h, if_neg (fun h => g h.2), Int.add_zero]
theorem toPL_end {x f t : Int} {ps : List Po} (h : ps.Pairwise (·.t ≤ ·.t)) : toPL x f t ps (ofP x t ps).length = (List.range 8).map fun (w : Nat) => totZ x f t w ps := by
  unfold toPL
  refine List.map_congr_left fun w _ => ?_
  unfold toP
  rw [List.take_length, tot_eq h]
def totI (acc x f t : Int) (ps : List Po) (i : Nat) : St := ⟨46, 3, [], [(1000001, [.ptr 0 0, .ptr 1 0, .ptr 2 0]), (2, (toPL x f t ps i).map (D.int .i64)), (1, [.int .i64 f]), (0, [.int .i64 acc, .sl 6 ps.length (List.flatMap poC ps)])]⟩
set_option maxRecDepth 100000 in
set_option maxHeartbeats 4000000 in
theorem fn_Totals (G : Glob) (acc x f t : Int) (ps : List Po) : FnF G Tryd.prog 24 [.agg (bkC acc ps), .int .i64 x, .int .i64 f, .int .i64 t] (.tup [slI (toL acc ps x f t), .int .i64 (spE acc ps x f t)]) := by
  refine FnF.outT (d' := slQ (toL acc ps x f t)) ?_ (slQ_w _)
  have hC := fn_span G acc x f t ps
  have hO := fn_of G acc x t ps
  unfold bkC at hC hO ⊢
  refine FnF.mkRC (c := _) Tryd.func24 rfl rfl Tryd.ntmps24 Tryd.results24 ?_
  (simp -dsimp only [↓z_bodyR, List.length_cons, List.length_nil, Nat.zero_add, Nat.reduceAdd, Nat.reduceLeDiff, wfL, ↓z_r_seq, ↓z_r_region, ↓z_ops_plain, ↓z_box, ↓evW_tmp, ↓z_lk_env, ↓reduceIte, ↓z_cl_agg, ↓z_nmC_cons, ↓z_mn'_int, ↓z_mn'_sl, ↓z_nmC_nil, and_self, ↓z_new, ↓z_nm_nil, Nat.reduceLT, ↓z_pg_env, ↓z_mn_agg, ↓z_mn_int, ↓z_pg_env0, ↓z_put, ↓lkW_cons, Nat.reduceEqDiff, reduceCtorEq, ↓z_cl_int, ↓z_nm_cons, ↓z_pg_cons, ↓z_mn_ptr, ↓z_pg_nil, ↓z_assign, ↓evW_const, ↓constW_nils, ↓constW_int, inR_i64, Int.reduceNeg, Int.reduceLE, ↓z_ops_nil, ↓z_seq_nrm, ↓z_load, ↓y_ty24, ↓y_sz24, ↓z_agTy_st, ↓loadW_ptr, ↓lkoW_cons, ↓z_rd_t, ↓z_sub_c, ↓z_sub_nil, ↓z_move, ↓y_ty3, ↓y_sz3, ↓z_agTy_int, ↓z_rd_f, ↓nthW_cons, ↓z_callv, ↓evW_func, ↓z_evL_cons, ↓z_evL_nil, ↓z_fun0, ↓z_coeL_cons, ↓z_coe_oag, ↓z_coeC_cons, ↓z_coeS_int, ↓z_coeS_sl, ↓z_coeC_nil, ↓z_coe_int, ↓z_coeL_nil, true_and])
  intro hd _ _ _
  refine call_fnL hC rfl fun _ => ?_
  (simp -dsimp only [↓z_put, Nat.reduceLT, ↓z_ops_plain, ↓z_assign, ↓evW_tmp, ↓lkW_cons, ↓reduceIte, ↓z_ops_nil, ↓z_seq_nrm, ↓z_r_seq, ↓z_r_region, ↓z_move, ↓z_binOp, ↓evW_const, ↓constW_int, inR_i64, Int.reduceNeg, Int.reduceLE, and_self, ↓z_bn_neq, ↓z_r_cond, ↓z_cnd, ↓z_gdt, ne_eq, Nat.reduceEqDiff, ↓constW_nils, ↓z_r_ret, ↓z_seq_rt, ↓z_end_rt, resLW, res1W, Nat.zero_add, Nat.reduceAdd, ↓z_frL_cons, ↓z_frL_nil, and_true, ↓z_coeL_cons, ↓z_coeL_nil, ↓z_pack2, D.tup.injEq, List.cons.injEq, ↓z_fr_int, ↓z_coe_int, ↓z_fr_nils, ↓z_coe_nils, true_and, ↓z_r_skip, ↓z_alloc, ↓y_zr93, ↓z_new, ↓z_nm_cons, ↓z_nmC_cons, ↓z_mn'_int, ↓z_nmC_nil, ↓z_mn'_sl, ↓z_nm_nil, ↓z_pg_cons, ↓z_mn_bool, ↓z_mn_int, ↓z_mn_oag, ↓z_mnL_int, ↓z_mnL_sl, ↓z_mnL_nil, ↓z_mn_nils, ↓z_mn_ptr, reduceCtorEq, ↓z_mn_agg, ↓z_pg_nil, ↓z_load, ↓y_ty24, ↓y_sz24, ↓z_agTy_st, ↓loadW_ptr, ↓lkoW_cons, ↓z_rd_t, List.length_cons, List.length_nil, Nat.reduceLeDiff, ↓z_sub_c, ↓z_sub_nil, ↓z_callv, ↓evW_func, ↓z_evL_cons, ↓z_evL_nil, ↓z_fun0, ↓z_coe_oag, ↓z_coeC_cons, ↓z_coeS_int, ↓z_coeS_sl, ↓z_coeC_nil, z_ite, Classical.not_not])
  refine ⟨fun c0 => ?_, fun c0 => ?_⟩
  · unfold toL
    rw [if_neg c0]
    rfl
  obtain ⟨c1, c2, c3, c4, c5, c6⟩ := spE_ok c0
  have hb := chkB_ok c1
  have hlen := hb.len
  have hY := yd_of G acc x t ps hb
  unfold bkC at hY
  unfold toL
  rw [if_pos c0]
  refine call_fn hO fun _ => ?_
  (simp -dsimp only [↓z_put, Nat.reduceLT, ↓z_ops_nil, ↓z_seq_nrm, ↓z_r_block, ↓z_r_rng, ↓evW_tmp, ↓lkW_cons, ↓reduceIte, true_and])
  refine rng_mk _ [(4, .ptr 0 0), (6, .ptr 1 0), (11, .ptr 2 0)] (totI acc x f t ps) hY (fun ds hds => by obtain ⟨r, _, rfl⟩ := List.mem_map.1 hds; rfl) (by simp) ?_ ?_ ?_
  · unfold totI
    (simp -dsimp only [↓z_wkE_cons, ↓lkW_cons, Nat.reduceEqDiff, ↓reduceIte, Nat.zero_add, Nat.reduceAdd, ↓z_wkE_nil, and_self, ↓z_noO_cons, not_false_eq_true, reduceCtorEq, ↓z_noO_nil, ↓z_snd_cons, ↓z_snd_nil, ↓z_wkO_cons, ↓lkoW_cons, ↓z_wkO_nil, and_true, true_and]); (try simp only [Int.toNat_natCast, Nat.mul_one, Bool.or_false, Bool.false_or, Bool.or_self, Bool.or_true])
    rfl
  · intro i ds hi
    unfold ofY at hi
    rw [List.getElem?_map] at hi
    obtain ⟨y, hy, rfl⟩ := Option.map_eq_some_iff.1 hi
    obtain ⟨hil, rfl⟩ := List.getElem?_eq_some_iff.1 hy
    obtain ⟨hk, e, _, _⟩ := ofP_mem (List.getElem_mem hil)
    have hs := toPL_n (f := f) hil
    have hs2 := @toPL_s x f t ps i hil
    have hl2 := po_len ps
    have h8 : (toPL x f t ps i).length = 8 := toPL_len
    have hle := toP_le (x := x) (f := f) (t := t) hb i
    have hle2 := toP_le (x := x) (f := f) (t := t) hb (i + 1)
    have hs3 := fun w => @toP_s x f t ps i w hil
    generalize (ofP x t ps)[i] = y at hk e hs hs2 hs3
    obtain ⟨k, p⟩ := y
    simp only at e hk hs hs2 hs3
    subst e
    have hsub := fun c => po_sub hk c
    have ok := (hb.ok _ (List.getElem_mem hk)).2
    unfold outP at ok
    unfold totI
    by_cases g : f ≤ ps[k].t
    · (simp -dsimp only [wfL, ↓z_seq, ↓z_region, ↓z_ops_plain, ↓z_assign, ↓evW_tmp, ↓z_par_cons, ↓z_par_nil, ↓z_put, Nat.reduceLT, ↓z_ops_nil, ↓z_seq_nrm, ↓lkW_cons, Nat.reduceEqDiff, ↓reduceIte, ↓z_onlyN, ↓z_block, ↓z_fieldAddr, ↓y_fl24x1, ↓y_sz22, ne_eq, reduceCtorEq, not_false_eq_true, ↓z_load, ↓y_ty22, ↓z_agTy_sl, ↓z_move, ↓z_indexAddr, ↓z_elTy_sl, ↓y_sz26, ↓y_ty26, ↓z_agTy_st, ↓z_alloc, ↓y_zr26, ↓z_new, ↓z_pg_cons, ↓z_store, ↓z_store_ptr, ↓lkoW_cons, Nat.zero_add, List.length_cons, List.length_nil, Nat.reduceAdd, Nat.reduceLeDiff, ↓spsW_cons, ↓drW_cons, Nat.reduceSub, ↓drW_nil, ↓z_cat_nil_r, ↓z_so_cons, ↓z_put_none, ↓y_fl26x3, ↓y_sz3, ↓z_fa_ptr, ↓y_ty3, ↓z_agTy_int, ↓loadW_ptr, ↓z_rd_f, ↓z_binOp, ↓z_cond, ↓y_fl26x4, ↓y_ty93, ↓z_elTy_arr, ↓z_blk_nrm, ↓z_wkO_cons, ↓z_wkO_nil, and_true, true_and, ↓z_skip, and_self, ↓z_mn_int, ↓z_nm_cons, ↓z_nmC_cons, ↓z_mn'_ptr, ↓z_nmC_nil, ↓z_nmC_int, ↓z_mn'_int, ↓z_mn'_sl, ↓z_nm_nil, ↓z_zp_cons, ↓z_zp_nil, ↓z_mn_ptr, ↓z_pg_nil, ↓nthW_cons, ↓z_ix_sl, ↓loadW_rop, ↓z_rd_t, hl2, ↓hsub, ↓z_mn_agg, ↓z_mn_rop, ↓z_mn_sl, ↓z_cl_agg, ↓z_bn_geq, ↓z_cnd, ↓z_gdt, g, ↓z_ix_ptr, ↓z_nth_int, ↓z_bn_add, ↓wrW_i64, Nat.mul_one, inR_i64, Int.reduceNeg, ↓z_cl_int, List.length_map, h8, ↓z_sps_int]); (try simp only [Int.toNat_natCast])
      intro _ _
      have hw : ps[k].w = ((ps[k].w.toNat : Nat) : Int) := by omega
      have hv : ∀ n (h : n < (toPL x f t ps i).length), (toPL x f t ps i)[n] = toP x f t ps i n := fun n h => by simp [toPL]
      have h3 := hs3 ps[k].w.toNat
      rw [if_pos ⟨hw, g⟩] at h3
      have h4 := hle ps[k].w.toNat
      have h5 := hle2 ps[k].w.toNat
      refine ⟨by omega, by omega, by omega, by omega, by omega, by omega, ?_, by omega, by omega, by omega, ?_⟩
      · rw [hv]; omega
      · rw [hv, hs2 hw (by omega) g]
    · rw [hs g]
      (simp -dsimp only [wfL, ↓z_seq, ↓z_region, ↓z_ops_plain, ↓z_assign, ↓evW_tmp, ↓z_par_cons, ↓z_par_nil, ↓z_put, Nat.reduceLT, ↓z_ops_nil, ↓z_seq_nrm, ↓lkW_cons, Nat.reduceEqDiff, ↓reduceIte, ↓z_onlyN, ↓z_block, ↓z_fieldAddr, ↓y_fl24x1, ↓y_sz22, ne_eq, reduceCtorEq, not_false_eq_true, ↓z_load, ↓y_ty22, ↓z_agTy_sl, ↓z_move, ↓z_indexAddr, ↓z_elTy_sl, ↓y_sz26, ↓y_ty26, ↓z_agTy_st, ↓z_alloc, ↓y_zr26, ↓z_new, ↓z_pg_cons, ↓z_store, ↓z_store_ptr, ↓lkoW_cons, Nat.zero_add, List.length_cons, List.length_nil, Nat.reduceAdd, Nat.reduceLeDiff, ↓spsW_cons, ↓drW_cons, Nat.reduceSub, ↓drW_nil, ↓z_cat_nil_r, ↓z_so_cons, ↓z_put_none, ↓y_fl26x3, ↓y_sz3, ↓z_fa_ptr, ↓y_ty3, ↓z_agTy_int, ↓loadW_ptr, ↓z_rd_f, ↓z_binOp, ↓z_cond, ↓y_fl26x4, ↓y_ty93, ↓z_elTy_arr, ↓z_blk_nrm, ↓z_wkO_cons, ↓z_wkO_nil, and_true, true_and, ↓z_skip, and_self, ↓z_mn_int, ↓z_nm_cons, ↓z_nmC_cons, ↓z_mn'_ptr, ↓z_nmC_nil, ↓z_nmC_int, ↓z_mn'_int, ↓z_mn'_sl, ↓z_nm_nil, ↓z_zp_cons, ↓z_zp_nil, ↓z_mn_ptr, ↓z_pg_nil, ↓nthW_cons, ↓z_ix_sl, ↓loadW_rop, ↓z_rd_t, hl2, ↓hsub, ↓z_mn_agg, ↓z_mn_rop, ↓z_mn_sl, ↓z_cl_agg, ↓z_bn_geq, ↓z_cnd, ↓z_gdt, g]); (try simp only [Int.toNat_natCast])
      exact fun _ _ => ⟨by omega, by omega, by omega⟩
  · rw [ofY_len]
    unfold totI
    rw [toPL_end hb.srt]
    (simp -dsimp only [↓z_blk_nrm, ↓z_seq_nrm, ↓z_r_seq, ↓z_r_region, ↓z_ops_plain, ↓z_slice, ↓evW_tmp, ↓z_evO_none, ↓z_bo_none, ↓y_ty93, ↓z_seTy_arr, ↓y_sz3, ↓z_put, Nat.reduceLT, ↓z_assign, ↓lkW_cons, ↓reduceIte, ↓evW_const, ↓constW_int, inR_i64, Int.reduceNeg, Int.reduceLE, and_self, ↓z_ops_nil, ↓z_r_ret, ↓z_end_rt, resLW, res1W, ↓z_frL_cons, ↓z_frL_nil, and_true, ↓z_coeL_cons, ↓z_coeL_nil, ↓z_pack2, D.tup.injEq, List.cons.injEq, ↓z_fr_int, ↓z_coe_int, D.int.injEq, true_and, Nat.reduceEqDiff, ↓z_dro_cons, reduceCtorEq, ↓z_dro_nil, ↓lkoW_cons, ↓z_zp_cons, ↓z_zp_nil, ↓z_slc_ptr_nn, Nat.mul_one, Nat.zero_add, List.length_map, maxLen_lit, Nat.reduceLeDiff, ↓z_fr_osw, ↓z_frC_ints, ↓z_coe_osw, ↓z_allP_int, ↓z_sub_map, List.drop_zero]); (try simp only [Int.toNat_natCast, Nat.mul_one, Bool.or_false, Bool.false_or, Bool.or_self, Bool.or_true])
    refine ⟨by simp, by simp, ?_, c0.symm⟩
    rw [List.take_of_length_le (by simp)]
    unfold slQ
    rw [if_neg (by simp)]; simp
theorem tot_le {acc x f t w : Int} {ps : List Po} (hb : BkOk acc ps) : -10995116277760000 ≤ totZ x f t w ps ∧ totZ x f t w ps ≤ 10995116277760000 := by
  unfold totZ
  have hl : (ps.filter fun p => decide (p.w = w) && inT f t p).length ≤ 10000 := Nat.le_trans (List.length_filter_le _ _) hb.len
  have h1 := sum_le (f := gotP x) (m := 1099511627776) (l := ps.filter fun p => decide (p.w = w) && inT f t p) fun p hp => got_le (hb.ok p (List.mem_filter.1 hp).1)
  have h3 : ((ps.filter fun p => decide (p.w = w) && inT f t p).length : Int) * 1099511627776 ≤ 10000 * 1099511627776 := Int.mul_le_mul_of_nonneg_right (by omega) (by decide)
  omega
theorem totZ_s {x f t w : Int} {ps : List Po} {i : Nat} (h : i < ps.length) : totZ x f t w (ps.take (i + 1)) = totZ x f t w (ps.take i) + if ps[i].w = w ∧ f ≤ ps[i].t ∧ ps[i].t < t then gotP x ps[i] else 0 := by
  unfold totZ
  rw [takeS h, List.filter_append, List.map_append, sum_app]
  congr 1
  split
  · rename_i g; rw [List.filter_cons_of_pos (by simp [inT, g])]; simp
  · rename_i g; rw [List.filter_cons_of_neg (by simp only [inT, Bool.and_eq_true, decide_eq_true_eq]; exact g)]; simp
set_option maxRecDepth 100000 in
set_option maxHeartbeats 4000000 in
theorem fn_refTotals (G : Glob) (acc x f t : Int) (ps : List Po) : FnF G Tryd.prog 25 [.agg (bkC acc ps), .int .i64 x, .int .i64 f, .int .i64 t] (.agg [slI (toL acc ps x f t), .int .i64 (spE acc ps x f t)]) := by
  refine FnF.outW (d' := .agg [slQ (toL acc ps x f t), .int .i64 (spE acc ps x f t)]) ?_ (.agg (.cons (slQ_w _) (.cons (.refl _) .nil)))
  have hC := fn_refspan G acc x f t ps
  unfold bkC at hC ⊢
  refine FnF.mk (c := _) Tryd.func25 rfl rfl Tryd.ntmps25 Tryd.results25 ?_
  (simp -dsimp only [bodyW, List.length_cons, List.length_nil, Nat.zero_add, Nat.reduceAdd, Nat.reduceLeDiff, wfL, ↓z_seq, ↓z_region, ↓z_ops_plain, ↓z_box, ↓evW_tmp, ↓z_lk_env, ↓reduceIte, ↓z_cl_agg, ↓z_nmC_cons, ↓z_mn'_int, ↓z_mn'_sl, ↓z_nmC_nil, and_self, ↓z_new, ↓z_nm_nil, Nat.reduceLT, ↓z_pg_env, ↓z_mn_agg, ↓z_mn_int, ↓z_pg_env0, ↓z_put, ↓z_alloc, ↓y_zr65, ↓z_nm_cons, ↓z_pg_cons, ↓z_mn_ptr, reduceCtorEq, ↓z_pg_nil, ↓z_ops_nil, ↓z_seq_nrm, ↓z_load, ↓lkW_cons, Nat.reduceEqDiff, ↓y_ty24, ↓y_sz24, ↓z_agTy_st, ↓loadW_ptr, ↓lkoW_cons, ↓z_rd_t, ↓z_sub_c, ↓z_sub_nil, ↓z_move, ↓z_callv, ↓evW_func, ↓z_evL_cons, ↓z_evL_nil, ↓z_fun0, ↓z_coeL_cons, ↓z_coe_oag, ↓z_coeC_cons, ↓z_coeS_int, ↓z_coeS_sl, ↓z_coeC_nil, ↓z_coe_int, ↓z_coeL_nil, true_and])
  intro hd _ _ _
  refine call_fnL hC rfl fun _ => ?_
  (simp -dsimp only [↓z_put, Nat.reduceLT, ↓z_ops_plain, ↓z_assign, ↓evW_tmp, ↓lkW_cons, ↓reduceIte, ↓z_ops_nil, ↓z_seq_nrm, ↓z_seq, ↓z_region, ↓z_move, ↓z_binOp, ↓evW_const, ↓constW_int, inR_i64, Int.reduceNeg, Int.reduceLE, and_self, ↓z_bn_neq, ↓z_cond, ↓z_cnd, ↓z_gdt, ne_eq, Nat.reduceEqDiff, ↓z_build, ↓y_ty65, ↓z_blTy_st, ↓y_zr65, ↓z_bld_cons, ↓y_fl65x1, ↓y_sz28, ↓z_cl_int, List.length_cons, List.length_nil, Nat.zero_add, Nat.reduceAdd, Nat.reduceLeDiff, ↓spsW_cons, reduceCtorEq, Nat.reduceSub, ↓drW_cons, ↓drW_nil, ↓z_cat_nil_r, ↓z_bld_nil, ↓z_store, ↓y_sz65, ↓z_cl_oag, ↓z_store_ptr, ↓lkoW_cons, ↓z_so_cons, ↓z_put_none, ↓z_ret, ↓z_seq_rt, ↓z_end_rt, resLW, res1W, ↓z_agTy_st, ↓z_frL_cons, ↓z_frL_nil, and_true, ↓z_coeL_cons, ↓z_coeL_nil, ↓z_pack1, ↓loadW_ptr, ↓z_rd_t, ↓z_sub_c, ↓z_sub_nil, ↓z_fr_oag, ↓z_frSL_cons, ↓z_frS_nils, ↓z_frS_int, ↓z_frSL_nil, ↓z_coe_oag, ↓z_coeC_cons, ↓z_coeS_nils, ↓z_coeS_int, ↓z_coeC_nil, D.agg.injEq, List.cons.injEq, true_and, ↓z_skip, ↓constW_nils, ↓z_block, ↓z_loop, z_ite, Classical.not_not])
  refine ⟨fun c0 => ?_, fun c0 => ?_⟩
  · unfold toL
    rw [if_neg c0]
    exact ⟨by rfl, rfl⟩
  obtain ⟨c1, c2, c3, c4, c5, c6⟩ := spE_ok c0
  have hb := chkB_ok c1
  have hlen := hb.len
  unfold toL
  rw [if_pos c0]
  refine hold_intro ⟨[(10, 1)], Nat, fun w => ⟨67, 3, [(11, .int .i64 w), (10, .osl 2 1 w), (8, .ptr 1 0), (4, .ptr 0 0), (1, .int .i64 x), (2, .int .i64 f), (3, .int .i64 t)], [(2, ((List.range w).map fun (w : Nat) => totZ x f t w ps).map (D.int .i64)), (1, [.nils, .int .i64 0]), (0, [.int .i64 acc, .sl 6 ps.length (List.flatMap poC ps)])]⟩, fun w => w ≤ 8, fun w => 8 - w, ?_, ?_⟩
  · (simp -dsimp only [↓z_ad_cons, Nat.reduceLT, ↓lkW_cons, Nat.reduceEqDiff, ↓reduceIte, ↓z_nm_cons, ↓z_nmC_cons, ↓z_mn'_nils, ↓z_mn'_int, ↓z_nmC_nil, and_self, ↓z_mn'_sl, ↓z_nm_nil, Nat.zero_add, Nat.reduceAdd, ↓z_pg_cons, ↓z_mn_int, ↓z_mn_nils, ↓z_mn_bool, ↓z_mn_oag, ↓z_mnL_int, ↓z_mnL_sl, ↓z_mnL_nil, ↓z_mn_ptr, reduceCtorEq, ↓z_mn_agg, ↓z_pg_nil, ↓z_ad_nil, ↓z_wk, ↓z_wkE_cons, D.int.injEq, true_and, D.osl.injEq, ↓z_wkE_nil, and_true, ↓z_wkO_cons, ↓lkoW_cons, ↓z_wkO_nil]); (try simp only [Int.toNat_natCast, Nat.mul_one, Bool.or_false, Bool.false_or, Bool.or_self, Bool.or_true])
    exact ⟨0, by omega, ⟨rfl, rfl⟩, rfl⟩
  intro w hw
  by_cases h : w < 8
  · have hlt : ((w : Int) < 8) = True := eq_true (by omega)
    (simp -dsimp only [↓z_seq, ↓z_region, ↓z_ops_plain, ↓z_move, ↓evW_tmp, ↓lkW_cons, ↓reduceIte, ↓z_put, Nat.reduceLT, ↓z_binOp, ↓evW_const, ↓constW_int, inR_i64, Int.reduceNeg, Int.reduceLE, and_self, ↓z_bn_lss, ↓z_ops_nil, ↓z_seq_nrm, ↓z_cond, ↓z_cnd, ↓z_gdt, hlt, ↓z_skip, ↓z_block, ↓z_assign, ↓z_loop, true_and])
    refine hold_intro ⟨[], Nat, fun i => ⟨67, 3, [(13, .int .i64 i), (12, .int .i64 (totZ x f t w (ps.take i))), (11, .int .i64 w), (10, .osl 2 1 w), (8, .ptr 1 0), (4, .ptr 0 0), (1, .int .i64 x), (2, .int .i64 f), (3, .int .i64 t)], [(2, ((List.range w).map fun (w : Nat) => totZ x f t w ps).map (D.int .i64)), (1, [.nils, .int .i64 0]), (0, [.int .i64 acc, .sl 6 ps.length (List.flatMap poC ps)])]⟩, fun i => i ≤ ps.length, fun i => ps.length - i, ?_, ?_⟩
    · (simp -dsimp only [↓z_ad_nil, ↓z_wk, ↓z_wkE_cons, ↓lkW_cons, ↓reduceIte, D.int.injEq, true_and, Nat.reduceEqDiff, ↓z_wkE_nil, and_self, and_true, ↓z_wkO_cons, ↓lkoW_cons, reduceCtorEq, ↓z_wkO_nil]); (try simp only [Int.toNat_natCast, Nat.mul_one, Bool.or_false, Bool.false_or, Bool.or_self, Bool.or_true])
      exact ⟨0, by omega, rfl, rfl⟩
    intro i hi
    by_cases h2 : i < ps.length
    · have hl2 := po_len ps
      have hsub := fun k => po_sub h2 k
      have hlt2 : ((i : Int) < (ps.length : Int)) = True := eq_true (by omega)
      have hok := hb.ok _ (List.getElem_mem h2)
      have hG := fn_Got G x ps[i] (ok_amt hok)
      unfold poC at hG
      have hs := totZ_s (x := x) (f := f) (t := t) (w := w) h2
      have b1 := tot_le (x := x) (f := f) (t := t) (w := w) (bk_take hb (i + 1))
      by_cases g : ps[i].w = w ∧ f ≤ ps[i].t ∧ ps[i].t < t
      · rw [if_pos g] at hs
        obtain ⟨g1, g2, g3⟩ := g
        (simp -dsimp only [↓z_seq, ↓z_region, ↓z_ops_plain, ↓z_move, ↓evW_tmp, ↓lkW_cons, ↓reduceIte, ↓z_put, Nat.reduceLT, ↓z_fieldAddr, Nat.reduceEqDiff, ↓y_fl24x1, ↓y_sz22, ne_eq, reduceCtorEq, not_false_eq_true, ↓z_fa_ptr, ↓z_load, ↓y_ty22, ↓z_agTy_sl, ↓loadW_ptr, ↓lkoW_cons, ↓z_rd_f, ↓nthW_cons, Nat.zero_add, Nat.reduceSub, ↓z_callb, ↓z_evL_cons, ↓z_evL_nil, ↓z_len, ↓z_ln_sl, ↓z_binOp, ↓z_bn_lss, ↓z_ops_nil, ↓z_seq_nrm, ↓z_cond, ↓z_cnd, ↓z_gdt, hlt2, ↓z_skip, ↓z_block, ↓z_indexAddr, ↓z_elTy_sl, ↓y_sz26, ↓z_ix_sl, ↓y_ty26, ↓z_agTy_st, ↓loadW_rop, ↓z_rd_t, hl2, ↓hsub, ↓z_alloc, ↓y_zr26, ↓z_new, ↓z_nm_cons, ↓z_nmC_int, ↓z_nmC_cons, ↓z_mn'_nils, ↓z_mn'_int, ↓z_nmC_nil, and_self, ↓z_mn'_sl, ↓z_nm_nil, ↓z_pg_cons, ↓z_mn_agg, ↓z_mn_rop, ↓z_mn_int, ↓z_mn_sl, ↓z_mn_ptr, ↓z_mn_bool, ↓z_mn_osl, ↓z_pg_nil, ↓z_store, ↓z_cl_agg, g1, List.length_cons, List.length_nil, Nat.reduceAdd, ↓z_store_ptr, Nat.reduceLeDiff, ↓spsW_cons, ↓drW_cons, ↓drW_nil, ↓z_cat_nil_r, ↓z_so_cons, ↓z_put_none, ↓y_fl26x4, ↓y_sz3, ↓y_ty3, ↓z_agTy_int, ↓z_bn_eql, ↓z_ops_guard, ↓z_grd, ↓z_dst_s, ↓z_dst_0, ↓z_grdD_b, ↓y_fl26x3, ↓z_gtt, ↓z_bn_geq, ↓z_pick, ↓z_pick_b, g2, g3, ↓z_sub_c, ↓z_sub_nil, ↓z_callv, ↓evW_func, ↓z_fun0, ↓z_coeL_cons, ↓z_coe_oag, ↓z_coeC_cons, ↓z_coeS_int, ↓z_coeC_nil, ↓z_coe_int, ↓z_coeL_nil, true_and]); (try simp only [Int.toNat_natCast])
        refine ⟨by omega, by omega, ?_⟩
        refine call_fn hG fun _ => ?_
        (simp -dsimp only [↓z_put, Nat.reduceLT, ↓z_ops_plain, ↓z_binOp, ↓evW_tmp, ↓lkW_cons, Nat.reduceEqDiff, ↓reduceIte, ↓z_bn_add, ↓wrW_i64, inR_i64, Int.reduceNeg, ↓z_assign, ↓z_ops_nil, ↓z_blk_nrm, ↓z_seq_nrm, ↓z_region, ↓z_move, ↓evW_const, ↓constW_int, Int.reduceLE, and_self, ↓z_lp_nrm, ↓z_wk, ↓z_wkE_cons, D.int.injEq, true_and, ↓z_wkE_nil, and_true, ↓z_wkO_cons, ↓lkoW_cons, reduceCtorEq, ↓z_wkO_nil]); (try simp only [Int.toNat_natCast, Nat.mul_one, Bool.or_false, Bool.false_or, Bool.or_self, Bool.or_true])
        exact ⟨by omega, by omega, i + 1, by omega, by omega, by omega, by omega⟩
      · rw [if_neg g] at hs
        (simp -dsimp only [↓z_seq, ↓z_region, ↓z_ops_plain, ↓z_move, ↓evW_tmp, ↓lkW_cons, ↓reduceIte, ↓z_put, Nat.reduceLT, ↓z_fieldAddr, Nat.reduceEqDiff, ↓y_fl24x1, ↓y_sz22, ne_eq, reduceCtorEq, not_false_eq_true, ↓z_fa_ptr, ↓z_load, ↓y_ty22, ↓z_agTy_sl, ↓loadW_ptr, ↓lkoW_cons, ↓z_rd_f, ↓nthW_cons, Nat.zero_add, Nat.reduceSub, ↓z_callb, ↓z_evL_cons, ↓z_evL_nil, ↓z_len, ↓z_ln_sl, ↓z_binOp, ↓z_bn_lss, ↓z_ops_nil, ↓z_seq_nrm, ↓z_cond, ↓z_cnd, ↓z_gdt, hlt2, ↓z_skip, ↓z_block, ↓z_indexAddr, ↓z_elTy_sl, ↓y_sz26, ↓z_ix_sl, ↓y_ty26, ↓z_agTy_st, ↓loadW_rop, ↓z_rd_t, hl2, ↓hsub, ↓z_alloc, ↓y_zr26, ↓z_new, ↓z_nm_cons, ↓z_nmC_int, ↓z_nmC_cons, ↓z_mn'_nils, ↓z_mn'_int, ↓z_nmC_nil, and_self, ↓z_mn'_sl, ↓z_nm_nil, ↓z_pg_cons, ↓z_mn_agg, ↓z_mn_rop, ↓z_mn_int, ↓z_mn_sl, ↓z_mn_ptr, ↓z_mn_bool, ↓z_mn_osl, ↓z_pg_nil, ↓z_store, ↓z_cl_agg, List.length_cons, List.length_nil, Nat.reduceAdd, ↓z_store_ptr, Nat.reduceLeDiff, ↓spsW_cons, ↓drW_cons, ↓drW_nil, ↓z_cat_nil_r, ↓z_so_cons, ↓z_put_none, ↓y_fl26x4, ↓y_sz3, ↓y_ty3, ↓z_agTy_int, ↓z_bn_eql, ↓z_ops_guard, ↓z_grd, ↓z_dst_s, ↓z_dst_0, ↓z_grdD_b, ↓y_fl26x3, ↓z_gtt, ↓z_bn_geq, ↓z_pick, ↓z_pick_b, ↓z_sub_c, ↓z_sub_nil, ↓z_callv, ↓evW_func, ↓z_fun0, ↓z_coeL_cons, ↓z_coe_oag, ↓z_coeC_cons, ↓z_coeS_int, ↓z_coeC_nil, ↓z_coe_int, ↓z_coeL_nil, true_and, ↓z_blk_nrm, ↓evW_const, ↓constW_int, inR_i64, Int.reduceNeg, Int.reduceLE, ↓z_bn_add, ↓wrW_i64, ↓z_assign, ↓z_lp_nrm, ↓z_wk, ↓z_wkE_cons, D.int.injEq, ↓z_wkE_nil, and_true, ↓z_wkO_cons, ↓z_wkO_nil, z_ite, ↓z_gnt, ↓z_gtf, ↓constW_bool, ↓z_gft]); (try simp only [Int.toNat_natCast])
        repeat' (first | omega | (refine ⟨by omega, i + 1, by omega, by omega, by omega, by omega⟩) | (intro _) | (apply And.intro))
    · have hlt2 : ((i : Int) < (ps.length : Int)) = False := eq_false (by omega)
      (simp -dsimp only [↓z_seq, ↓z_region, ↓z_ops_plain, ↓z_move, ↓evW_tmp, ↓lkW_cons, ↓reduceIte, ↓z_put, Nat.reduceLT, ↓z_fieldAddr, Nat.reduceEqDiff, ↓y_fl24x1, ↓y_sz22, ne_eq, reduceCtorEq, not_false_eq_true, ↓z_fa_ptr, ↓z_load, ↓y_ty22, ↓z_agTy_sl, ↓loadW_ptr, ↓lkoW_cons, ↓z_rd_f, ↓nthW_cons, Nat.zero_add, Nat.reduceSub, ↓z_callb, ↓z_evL_cons, ↓z_evL_nil, ↓z_len, ↓z_ln_sl, ↓z_binOp, ↓z_bn_lss, ↓z_ops_nil, ↓z_seq_nrm, ↓z_cond, ↓z_cnd, ↓z_gdt, hlt2, ↓z_exit, ↓z_seq_ext, ↓z_lp_ext, ↓z_blk_ext, ↓z_buildSlice, ↓y_ty54, ↓z_slTy, ↓y_sz3, Nat.mul_one, Nat.reduceLeDiff, maxLen_lit, ↓y_zr3, List.length_cons, List.length_nil, ↓z_repL_s, ↓z_repL_0, ↓z_cat_nil_r, ↓z_bld_cons, ↓z_cl_int, ↓spsW_cons, ↓drW_cons, ↓drW_nil, ↓z_bld_nil, ↓z_allP_cons, ↓z_isP_int, ↓z_allP_nil, and_self, ↓z_append, ↓z_nint_sl, ↓y_by3, ↓z_src_slx, ↓z_app_osl, List.length_map, ↓z_nmC_int, ↓z_room, ↓z_pgo_cons, ↓z_pgc_nm, ↓z_nmC_cons, ↓z_mn'_nils, ↓z_mn'_int, ↓z_nmC_nil, ↓z_mn'_sl, ↓z_pgo_nil, ↓z_pg_cons, ↓z_mn_slx, ↓z_mn_int, ↓z_mn_osl, ↓z_mn_bool, ↓z_mn_sl, ↓z_mn_ptr, ↓z_pg_nil, ↓z_so_cons, ↓z_assign, ↓z_blk_nrm, ↓evW_const, ↓constW_int, inR_i64, Int.reduceNeg, Int.reduceLE, ↓z_bn_add, ↓wrW_i64, ↓z_lp_nrm, ↓z_wk, ↓z_wkE_cons, D.int.injEq, true_and, D.osl.injEq, ↓z_wkE_nil, and_true, ↓z_wkO_cons, ↓z_wkO_nil]); (try simp only [Int.toNat_natCast, Nat.mul_one, Bool.or_false, Bool.false_or, Bool.or_self, Bool.or_true])
      have e : ps.take i = ps := List.take_of_length_le (by omega)
      rw [e]
      refine ⟨by simp, by omega, by omega, by omega, w + 1, by omega, by omega, ⟨by omega, rfl⟩, ?_⟩
      rw [List.range_succ, List.map_append, List.map_append]; rfl
  · have hlt : ((w : Int) < 8) = False := eq_false (by omega)
    (simp -dsimp only [↓z_seq, ↓z_region, ↓z_ops_plain, ↓z_move, ↓evW_tmp, ↓lkW_cons, ↓reduceIte, ↓z_put, Nat.reduceLT, ↓z_binOp, ↓evW_const, ↓constW_int, inR_i64, Int.reduceNeg, Int.reduceLE, and_self, ↓z_bn_lss, ↓z_ops_nil, ↓z_seq_nrm, ↓z_cond, ↓z_cnd, ↓z_gdt, hlt, ↓z_exit, ↓z_seq_ext, ↓z_lp_ext, ↓z_blk_ext, Nat.reduceEqDiff, ↓z_build, ↓y_ty65, ↓z_blTy_st, ↓y_zr65, ↓z_bld_cons, ↓y_fl65x0, ↓y_sz54, ↓z_cl_osl, List.length_cons, List.length_nil, Nat.zero_add, Nat.reduceAdd, Nat.reduceLeDiff, ↓spsW_cons, ↓drW_cons, reduceCtorEq, Nat.reduceSub, ↓catW_cons, ↓catW_nil, ↓z_bld_nil, ↓z_store, ↓y_sz65, ↓z_cl_oag, ↓z_store_ptr, ↓lkoW_cons, ↓drW_nil, ↓z_cat_nil_r, ↓z_so_cons, ↓z_put_none, ↓z_ret, ↓z_end_rt, resLW, res1W, ↓z_agTy_st, ↓z_frL_cons, ↓z_frL_nil, and_true, ↓z_coeL_cons, ↓z_coeL_nil, ↓z_pack1, ↓loadW_ptr, ↓z_rd_t, ↓z_sub_c, ↓z_sub_nil, ↓z_fr_oag, ↓z_frSL_cons, ↓z_frS_osl, ↓z_frC_ints, ↓z_frS_int, ↓z_frSL_nil, ↓z_coe_oag, ↓z_coeC_cons, ↓z_coeS_osl, ↓z_allP_int, List.length_map, Nat.mul_one, ↓z_coeS_int, ↓z_coeC_nil, D.agg.injEq, List.cons.injEq, D.int.injEq, true_and]); (try simp only [Int.toNat_natCast, Nat.mul_one, Bool.or_false, Bool.false_or, Bool.or_self, Bool.or_true])
    have e : w = 8 := by omega
    subst e
    exact ⟨by rfl, by simp, by unfold slQ; rw [if_neg (by simp)]; simp, c0.symm⟩
set_option maxRecDepth 100000 in
set_option maxHeartbeats 8000000 in
theorem fn_SameInts (G : Glob) (x y : List Int) : Fn G Tryd.prog 26 [slI x, slI y] (.bool (decide (x = y))) := by
  unfold slI
  refine Fn.mk (c := _) Tryd.func26 rfl rfl Tryd.ntmps26 Tryd.results26 ?_
  (simp -dsimp only [bodyW, List.length_cons, List.length_nil, Nat.zero_add, Nat.reduceAdd, Nat.reduceLeDiff, wfL, ↓z_seq, ↓z_region, ↓z_ops_plain, ↓z_assign, ↓evW_const, ↓constW_bool, ↓z_put, Nat.reduceLT, ↓z_ops_nil, ↓z_seq_nrm, ↓z_move, ↓evW_tmp, ↓lkW_cons, reduceCtorEq, ↓reduceIte, ↓z_lk_env, ↓z_callb, ↓z_evL_cons, ↓z_evL_nil, ↓z_len, ↓y_ty54, ↓z_ln_sl, Nat.reduceEqDiff, ↓z_binOp, ↓z_bn_neq, ↓z_cond, ↓z_cnd, ↓z_gdt, ne_eq, ↓z_ret, ↓z_seq_rt, ↓z_end_rt, resLW, res1W, ↓z_envF_cons, ↓z_envF_nil, ↓z_coeL_cons, ↓z_coeL_nil, ↓z_pack1, ↓z_coe_bool, D.bool.injEq, true_and, ↓z_skip, ↓constW_int, inR_i64, Int.reduceNeg, Int.reduceLE, and_self, ↓z_block, ↓z_loop, z_ite, Classical.not_not])
  intro hx hy
  have hb : x.length ≤ 9223372036854775807 := hx.1.1
  refine ⟨fun hl => (decide_eq_false fun e => hl (by rw [e])).symm, fun hl => hold_intro ⟨[], Nat, fun i => ⟨26, 0, [(5, .int .i64 i), (0, .sl 1 x.length (x.map (D.int .i64))), (1, .sl 1 y.length (y.map (D.int .i64)))], []⟩, fun i => i ≤ x.length ∧ x.take i = y.take i, fun i => x.length - i, ?_, ?_⟩⟩
  · (simp -dsimp only [↓z_ad_nil, ↓z_wk, ↓z_wkE_cons, ↓lkW_cons, ↓reduceIte, D.int.injEq, true_and, reduceCtorEq, ↓z_lk_env, Nat.reduceEqDiff, Nat.zero_add, ↓z_wkE_nil, and_self, and_true, ↓z_wkO_nil]); (try simp only [Int.toNat_natCast, Nat.mul_one, Bool.or_false, Bool.false_or, Bool.or_self, Bool.or_true])
    exact ⟨0, by simp⟩
  rintro i ⟨hi, he⟩
  (simp -dsimp only [↓z_seq, ↓z_region, ↓z_ops_plain, ↓z_move, ↓evW_tmp, ↓lkW_cons, ↓reduceIte, ↓z_put, Nat.reduceLT, reduceCtorEq, ↓z_callb, ↓z_evL_cons, ↓z_evL_nil, ↓z_len, ↓y_ty54, ↓z_ln_sl, ↓z_binOp, Nat.reduceEqDiff, ↓z_bn_lss, ↓z_ops_nil, ↓z_seq_nrm, ↓z_cond, ↓z_cnd, ↓z_gdt, ↓z_skip, ↓z_block, ↓z_region_d, ↓y_mix, true_and, ↓z_exit, ↓z_seq_ext, ↓z_lp_ext, ↓z_blk_ext, ↓z_assign, ↓evW_const, ↓constW_bool, ↓z_ret, ↓z_end_rt, resLW, res1W, ↓z_coeL_cons, ↓z_coeL_nil, ↓z_pack1, ↓z_coe_bool, D.bool.injEq, z_ite])
  refine ⟨fun h => rgn_q (by decide +kernel) rfl ?_, fun h => ?_⟩
  · (simp -dsimp only [↓z_ops_plain, ↓z_move, ↓evW_tmp, ↓lkW_cons, reduceCtorEq, ↓reduceIte, ↓z_put, Nat.reduceLT, Nat.reduceEqDiff, ↓z_indexAddr, ↓y_ty54, ↓z_elTy_sl, ↓y_sz3, ↓z_ix_sl, ↓z_load, ↓y_ty3, ↓z_agTy_int, ↓loadW_rop, ↓z_rd_f, ↓z_nth_int, ↓z_binOp, ↓z_bn_neq, ↓z_ops_nil, ↓z_seq_nrm, ↓z_cond, ↓z_cnd, ↓z_gdt, Nat.mul_one, ne_eq, ↓z_seq, ↓z_region, ↓z_assign, ↓evW_const, ↓constW_bool, ↓z_ret, ↓z_blk_rt, ↓z_seq_rt, ↓z_lp_rt, ↓z_end_rt, resLW, res1W, ↓z_coeL_cons, ↓z_coeL_nil, ↓z_pack1, ↓z_coe_bool, D.bool.injEq, true_and, ↓z_skip, ↓z_blk_nrm, ↓constW_int, inR_i64, Int.reduceNeg, Int.reduceLE, and_self, ↓z_bn_add, ↓wrW_i64, ↓z_lp_nrm, ↓z_wk, ↓z_wkE_cons, D.int.injEq, ↓z_wkE_nil, and_true, ↓z_wkO_nil, z_ite, Classical.not_not]); (try simp only [Int.toNat_natCast])
    refine ⟨by omega, by omega, by omega, by omega, by omega, by omega, fun hne => ?_, fun heq => ⟨by omega, i + 1, ⟨by omega, ?_⟩, by omega, by omega⟩⟩
    · exact (decide_eq_false fun e => hne (by subst e; rfl)).symm
    · rw [takeS (by omega), takeS (by omega), he, heq]
  · rw [List.take_of_length_le (by omega), List.take_of_length_le (by omega)] at he
    exact (decide_eq_true he).symm
end Go.Abs

