/-
  BILL, eleventh walks: statements join.
-/
import Derived.Test.YtccipobbdohdpaaDoorB11
namespace Go.Abs
open Go.Proofs
/-- What the first lines of a statement amount to. -/
def lnAmt (x f t : Int) (ps : List Po) (i : Nat) : Int := ((((gP x 0 ps).filter fun y => inT f t y.2).take i).map fun y => gotP x y.2).sum
theorem lnZ_at {x f t : Int} {ps : List Po} {i : Nat} (h : i < (lnZ x f t ps).length) : ∃ k, ∃ hk : k < ps.length, (lnZ x f t ps)[i] = (k : Int) ∧ (ps[k].d = x ∨ ps[k].c = x) ∧ lnAmt x f t ps (i + 1) = lnAmt x f t ps i + gotP x ps[k] := by
  have h' : i < ((gP x 0 ps).filter fun y => inT f t y.2).length := by unfold lnZ at h; rw [List.length_map] at h; exact h
  obtain ⟨j, hj, e, hx⟩ := gP_mem (List.mem_filter.1 (List.getElem_mem h')).1
  refine ⟨j, hj, ?_, hx, ?_⟩
  · have h2 : (lnZ x f t ps)[i]? = some (j : Int) := by unfold lnZ; rw [List.getElem?_map, List.getElem?_eq_getElem h', e]; simp
    rw [List.getElem?_eq_getElem h] at h2
    exact Option.some.inj h2
  · unfold lnAmt
    rw [takeS h', List.map_append, sum_app, e]
    simp
theorem lnAmt_end {x f t : Int} (ps : List Po) : lnAmt x f t ps (lnZ x f t ps).length = ((ps.filter (inT f t)).map (gotP x)).sum := by
  unfold lnAmt lnZ
  rw [List.length_map, List.take_length, ln_sum]
theorem amt_le {acc x f t : Int} {ps : List Po} (hb : BkOk acc ps) (i : Nat) : -10995116277760000 ≤ lnAmt x f t ps i ∧ lnAmt x f t ps i ≤ 10995116277760000 := by
  unfold lnAmt
  have hl : (((gP x 0 ps).filter fun y => inT f t y.2).take i).length ≤ 10000 := Nat.le_trans (List.length_take_le' _ _) (Nat.le_trans (List.length_filter_le _ _) (Nat.le_trans (gP_le 0 ps) hb.len))
  have h1 := sum_le (f := fun y : Nat × Po => gotP x y.2) (m := 1099511627776) (l := ((gP x 0 ps).filter fun y => inT f t y.2).take i) fun y hy => by
    obtain ⟨j, hj, e, _⟩ := gP_mem (List.mem_filter.1 (List.mem_of_mem_take hy)).1
    rw [e]; exact got_le (hb.ok _ (List.getElem_mem hj))
  have h3 : ((((gP x 0 ps).filter fun y => inT f t y.2).take i).length : Int) * 1099511627776 ≤ 10000 * 1099511627776 := Int.mul_le_mul_of_nonneg_right (by omega) (by decide)
  omega
theorem lnZ_len {x f t : Int} (ps : List Po) : (lnZ x f t ps).length ≤ ps.length := by
  unfold lnZ; rw [List.length_map]; exact Nat.le_trans (List.length_filter_le _ _) (gP_le 0 ps)
theorem spE_0 {acc x f t : Int} {ps : List Po} (h : chkB acc ps = 0) (h0 : 0 ≤ x) (h1 : x < acc) (h2 : 0 ≤ f) (h3 : f ≤ t) (h4 : t ≤ 1000001) : spE acc ps x f t = 0 := by
  unfold spE; rw [if_pos h, if_pos ⟨h0, h1⟩, if_neg (by omega)]
set_option maxRecDepth 100000 in
set_option maxHeartbeats 8000000 in
theorem fn_LawJ (acc : Int) (ps : List Po) (a t0 t1 t2 : Int) (ha : 0 ≤ a ∧ a ≤ 255) : Fn GH Tryd.prog 6 [.agg (bkC acc ps), .int .u8 a, .agg [.int .i64 t0, .int .i64 t1, .int .i64 t2]] (.bool true) := by
  have hC := fn_Check GH acc ps
  unfold bkC at hC ⊢
  refine Fn.mk (c := _) Tryd.func6 rfl rfl Tryd.ntmps6 Tryd.results6 ?_
  (simp -dsimp only [bodyW, List.length_cons, List.length_nil, Nat.zero_add, Nat.reduceAdd, Nat.reduceLeDiff, wfL, ↓z_seq, ↓z_region, ↓z_ops_plain, ↓z_box, ↓evW_tmp, ↓z_lk_env, ↓reduceIte, ↓z_cl_agg, ↓z_nmC_cons, ↓z_mn'_int, ↓z_mn'_sl, ↓z_nmC_nil, and_self, ↓z_new, ↓z_nm_nil, Nat.reduceLT, ↓z_pg_env, ↓z_mn_agg, ↓z_mn_int, ↓z_pg_env0, ↓z_put, ↓lkW_cons, Nat.reduceEqDiff, reduceCtorEq, ↓z_nm_cons, ↓z_pg_cons, ↓z_mn_ptr, ↓z_pg_nil, ↓z_assign, ↓evW_const, ↓constW_bool, ↓z_ops_nil, ↓z_seq_nrm, ↓z_fieldAddr, ↓y_fl24x1, ↓y_sz22, ne_eq, not_false_eq_true, ↓z_fa_ptr, ↓z_load, ↓y_ty22, ↓z_agTy_sl, ↓loadW_ptr, ↓lkoW_cons, ↓z_rd_f, ↓nthW_cons, Nat.reduceSub, ↓z_callb, ↓z_evL_cons, ↓z_evL_nil, ↓z_len, ↓z_ln_sl, ↓z_binOp, ↓constW_int, inR_i64, Int.reduceNeg, Int.reduceLE, ↓z_bn_gtr, ↓z_move, ↓z_ops_guard, ↓z_grd, ↓z_dst_s, ↓z_dst_0, ↓z_grdD_b, ↓z_gdf, ↓z_gnf, ↓z_gft, ↓z_pick, ↓z_pick_b, ↓z_gnt, ↓z_gff, ↓z_gtf, ↓z_cond, ↓z_cnd, ↓z_gtt, ↓z_callv, ↓evW_func, ↓z_fun0, ↓z_coeL_nil, true_and, ↓y_ty24, ↓y_sz24, ↓z_agTy_st, ↓z_rd_t, ↓z_sub_c, ↓z_sub_nil, ↓z_coeL_cons, ↓z_coe_oag, ↓z_coeC_cons, ↓z_coeS_int, ↓z_coeS_sl, ↓z_coeC_nil, z_ite])
  intro hd _ _
  have hs : ∀ {S : St} {k : D → St → Prop} {bb : Bool} {u : Tag (callW GH Tryd.prog 8 [] bb S k)}, k (.bool true) S → hold (callW GH Tryd.prog 8 [] bb S k) u := fun hk => call_fnL fn_sanity rfl fun _ => hk
  refine ⟨fun g => hs (by (simp -dsimp only [↓z_put, Nat.reduceLT, ↓z_ops_plain, ↓z_assign, ↓evW_tmp, ↓lkW_cons, ↓reduceIte, ↓z_ops_nil, ↓z_seq_nrm, ↓z_ret, ↓z_seq_rt, ↓z_end_rt, resLW, res1W, Bool.not_false, Nat.zero_add, Nat.reduceAdd, ↓z_coeL_cons, ↓z_coeL_nil, ↓z_pack1, ↓z_coe_bool, and_self]); (try simp only [Int.toNat_natCast, Nat.mul_one, Bool.or_false, Bool.false_or, Bool.or_self, Bool.or_true])), fun g => call_fnL hC rfl fun _ => ?_⟩
  by_cases c0 : chkB acc ps = 0
  rotate_left 1
  · (simp -dsimp only [↓z_put, Nat.reduceLT, ↓z_ops_guard, ↓z_grd, ↓z_dst_s, ↓z_dst_0, ↓lkW_cons, Nat.reduceEqDiff, ↓reduceIte, ↓z_grdD_b, ↓z_gff, ↓z_binOp, ↓evW_tmp, ↓evW_const, ↓constW_int, inR_i64, Int.reduceNeg, Int.reduceLE, and_self, ↓z_bn_neq, ↓z_ops_plain, ↓z_pick, ↓z_pick_b, ↓z_gft, ↓z_move, ↓z_gdf, ne_eq, c0, not_false_eq_true, ↓z_gnf, ↓z_gnt, ↓constW_bool, ↓z_gtf, ↓z_ops_nil, ↓z_seq_nrm, ↓z_cond, ↓z_cnd, ↓z_gtt, ↓z_seq, ↓z_region, ↓z_callv, ↓evW_func, ↓z_evL_nil, ↓z_fun0, ↓z_coeL_nil, true_and])
    repeat (refine And.intro (by omega) ?_)
    exact hs (by (simp -dsimp only [↓z_put, Nat.reduceLT, ↓z_ops_plain, ↓z_assign, ↓evW_tmp, ↓lkW_cons, ↓reduceIte, ↓z_ops_nil, ↓z_seq_nrm, ↓z_ret, ↓z_seq_rt, ↓z_end_rt, resLW, res1W, Bool.not_false, ne_eq, Nat.zero_add, Nat.reduceAdd, ↓z_coeL_cons, ↓z_coeL_nil, ↓z_pack1, ↓z_coe_bool, and_self]); (try simp only [Int.toNat_natCast, Nat.mul_one, Bool.or_false, Bool.false_or, Bool.or_self, Bool.or_true]))
  by_cases c1 : t0 < 0
  · (simp -dsimp only [↓z_put, Nat.reduceLT, ↓z_ops_guard, ↓z_grd, ↓z_dst_s, ↓z_dst_0, ↓lkW_cons, Nat.reduceEqDiff, ↓reduceIte, ↓z_grdD_b, ↓z_gff, ↓z_binOp, ↓evW_tmp, ↓evW_const, ↓constW_int, inR_i64, Int.reduceNeg, Int.reduceLE, and_self, ↓z_bn_neq, ↓z_ops_plain, ↓z_pick, ↓z_pick_b, ↓z_gft, ↓z_move, ↓z_gdf, c0, ne_eq, not_true_eq_false, ↓z_indexAddr, ↓y_ty71, ↓z_elTy_arr, ↓y_sz3, ↓z_ix_ptr, ↓z_load, ↓y_ty3, ↓z_agTy_int, ↓loadW_ptr, ↓lkoW_cons, Nat.zero_add, ↓z_rd_f, ↓nthW_cons, Int.reduceToNat, Nat.mul_one, ↓z_bn_lss, c1, ↓z_gnf, ↓z_gnt, ↓constW_bool, ↓z_gtf, ↓z_ops_nil, ↓z_seq_nrm, ↓z_cond, ↓z_cnd, ↓z_gtt, ↓z_seq, ↓z_region, ↓z_callv, ↓evW_func, ↓z_evL_nil, ↓z_fun0, ↓z_coeL_nil, true_and])
    repeat (refine And.intro (by omega) ?_)
    exact hs (by (simp -dsimp only [↓z_put, Nat.reduceLT, ↓z_ops_plain, ↓z_assign, ↓evW_tmp, ↓lkW_cons, ↓reduceIte, ↓z_ops_nil, ↓z_seq_nrm, ↓z_ret, ↓z_seq_rt, ↓z_end_rt, resLW, res1W, Bool.not_false, Nat.zero_add, Int.reduceToNat, Nat.mul_one, ne_eq, Nat.reduceAdd, ↓z_coeL_cons, ↓z_coeL_nil, ↓z_pack1, ↓z_coe_bool, and_self]); (try simp only [Int.toNat_natCast, Nat.mul_one, Bool.or_false, Bool.false_or, Bool.or_self, Bool.or_true]))
  by_cases c2 : t1 < t0
  · (simp -dsimp only [↓z_put, Nat.reduceLT, ↓z_ops_guard, ↓z_grd, ↓z_dst_s, ↓z_dst_0, ↓lkW_cons, Nat.reduceEqDiff, ↓reduceIte, ↓z_grdD_b, ↓z_gff, ↓z_binOp, ↓evW_tmp, ↓evW_const, ↓constW_int, inR_i64, Int.reduceNeg, Int.reduceLE, and_self, ↓z_bn_neq, ↓z_ops_plain, ↓z_pick, ↓z_pick_b, ↓z_gft, ↓z_move, ↓z_gdf, c0, ne_eq, not_true_eq_false, ↓z_indexAddr, ↓y_ty71, ↓z_elTy_arr, ↓y_sz3, ↓z_ix_ptr, ↓z_load, ↓y_ty3, ↓z_agTy_int, ↓loadW_ptr, ↓lkoW_cons, Nat.zero_add, ↓z_rd_f, ↓nthW_cons, Int.reduceToNat, Nat.mul_one, ↓z_bn_lss, c1, reduceCtorEq, Nat.reduceSub, c2, ↓z_gnf, ↓z_gnt, ↓constW_bool, ↓z_gtf, ↓z_ops_nil, ↓z_seq_nrm, ↓z_cond, ↓z_cnd, ↓z_gtt, ↓z_seq, ↓z_region, ↓z_callv, ↓evW_func, ↓z_evL_nil, ↓z_fun0, ↓z_coeL_nil, true_and])
    repeat (refine And.intro (by omega) ?_)
    exact hs (by (simp -dsimp only [↓z_put, Nat.reduceLT, ↓z_ops_plain, ↓z_assign, ↓evW_tmp, ↓lkW_cons, ↓reduceIte, ↓z_ops_nil, ↓z_seq_nrm, ↓z_ret, ↓z_seq_rt, ↓z_end_rt, resLW, res1W, Bool.not_false, Nat.zero_add, Int.reduceToNat, Nat.mul_one, ne_eq, Nat.reduceAdd, ↓z_coeL_cons, ↓z_coeL_nil, ↓z_pack1, ↓z_coe_bool, and_self]); (try simp only [Int.toNat_natCast, Nat.mul_one, Bool.or_false, Bool.false_or, Bool.or_self, Bool.or_true]))
  by_cases c3 : t2 < t1
  · (simp -dsimp only [↓z_put, Nat.reduceLT, ↓z_ops_guard, ↓z_grd, ↓z_dst_s, ↓z_dst_0, ↓lkW_cons, Nat.reduceEqDiff, ↓reduceIte, ↓z_grdD_b, ↓z_gff, ↓z_binOp, ↓evW_tmp, ↓evW_const, ↓constW_int, inR_i64, Int.reduceNeg, Int.reduceLE, and_self, ↓z_bn_neq, ↓z_ops_plain, ↓z_pick, ↓z_pick_b, ↓z_gft, ↓z_move, ↓z_gdf, c0, ne_eq, not_true_eq_false, ↓z_indexAddr, ↓y_ty71, ↓z_elTy_arr, ↓y_sz3, ↓z_ix_ptr, ↓z_load, ↓y_ty3, ↓z_agTy_int, ↓loadW_ptr, ↓lkoW_cons, Nat.zero_add, ↓z_rd_f, ↓nthW_cons, Int.reduceToNat, Nat.mul_one, ↓z_bn_lss, c1, reduceCtorEq, Nat.reduceSub, c2, c3, ↓z_gnf, ↓z_gnt, ↓constW_bool, ↓z_ops_nil, ↓z_seq_nrm, ↓z_cond, ↓z_cnd, ↓z_gtt, ↓z_seq, ↓z_region, ↓z_callv, ↓evW_func, ↓z_evL_nil, ↓z_fun0, ↓z_coeL_nil, true_and])
    repeat (refine And.intro (by omega) ?_)
    exact hs (by (simp -dsimp only [↓z_put, Nat.reduceLT, ↓z_ops_plain, ↓z_assign, ↓evW_tmp, ↓lkW_cons, ↓reduceIte, ↓z_ops_nil, ↓z_seq_nrm, ↓z_ret, ↓z_seq_rt, ↓z_end_rt, resLW, res1W, Bool.not_false, Nat.zero_add, Int.reduceToNat, Nat.mul_one, ne_eq, Nat.reduceAdd, ↓z_coeL_cons, ↓z_coeL_nil, ↓z_pack1, ↓z_coe_bool, and_self]); (try simp only [Int.toNat_natCast, Nat.mul_one, Bool.or_false, Bool.false_or, Bool.or_self, Bool.or_true]))
  by_cases c4 : 1000001 < t2
  · (simp -dsimp only [↓z_put, Nat.reduceLT, ↓z_ops_guard, ↓z_grd, ↓z_dst_s, ↓z_dst_0, ↓lkW_cons, Nat.reduceEqDiff, ↓reduceIte, ↓z_grdD_b, ↓z_gff, ↓z_binOp, ↓evW_tmp, ↓evW_const, ↓constW_int, inR_i64, Int.reduceNeg, Int.reduceLE, and_self, ↓z_bn_neq, ↓z_ops_plain, ↓z_pick, ↓z_pick_b, ↓z_gft, ↓z_move, ↓z_gdf, c0, ne_eq, not_true_eq_false, ↓z_indexAddr, ↓y_ty71, ↓z_elTy_arr, ↓y_sz3, ↓z_ix_ptr, ↓z_load, ↓y_ty3, ↓z_agTy_int, ↓loadW_ptr, ↓lkoW_cons, Nat.zero_add, ↓z_rd_f, ↓nthW_cons, Int.reduceToNat, Nat.mul_one, ↓z_bn_lss, c1, reduceCtorEq, Nat.reduceSub, c2, c3, ↓z_bn_gtr, ↓z_ops_nil, ↓z_seq_nrm, ↓z_cond, ↓z_cnd, ↓z_gdt, c4, ↓z_seq, ↓z_region, ↓z_callv, ↓evW_func, ↓z_evL_nil, ↓z_fun0, ↓z_coeL_nil, true_and])
    repeat (refine And.intro (by omega) ?_)
    exact hs (by (simp -dsimp only [↓z_put, Nat.reduceLT, ↓z_ops_plain, ↓z_assign, ↓evW_tmp, ↓lkW_cons, ↓reduceIte, ↓z_ops_nil, ↓z_seq_nrm, ↓z_ret, ↓z_seq_rt, ↓z_end_rt, resLW, res1W, Nat.zero_add, Int.reduceToNat, Nat.mul_one, ne_eq, Nat.reduceAdd, ↓z_coeL_cons, ↓z_coeL_nil, ↓z_pack1, ↓z_coe_bool, and_self]); (try simp only [Int.toNat_natCast, Nat.mul_one, Bool.or_false, Bool.false_or, Bool.or_self, Bool.or_true]))
  have hb := chkB_ok c0
  have w1 := hb.a1
  have w2 := hb.a2
  (simp -dsimp only [↓z_put, Nat.reduceLT, ↓z_ops_guard, ↓z_grd, ↓z_dst_s, ↓z_dst_0, ↓lkW_cons, Nat.reduceEqDiff, ↓reduceIte, ↓z_grdD_b, ↓z_gff, ↓z_binOp, ↓evW_tmp, ↓evW_const, ↓constW_int, inR_i64, Int.reduceNeg, Int.reduceLE, and_self, ↓z_bn_neq, ↓z_ops_plain, ↓z_pick, ↓z_pick_b, ↓z_gft, ↓z_move, ↓z_gdf, c0, ne_eq, not_true_eq_false, ↓z_indexAddr, ↓y_ty71, ↓z_elTy_arr, ↓y_sz3, ↓z_ix_ptr, ↓z_load, ↓y_ty3, ↓z_agTy_int, ↓loadW_ptr, ↓lkoW_cons, Nat.zero_add, ↓z_rd_f, ↓nthW_cons, Int.reduceToNat, Nat.mul_one, ↓z_bn_lss, c1, reduceCtorEq, Nat.reduceSub, c2, c3, ↓z_bn_gtr, ↓z_ops_nil, ↓z_seq_nrm, ↓z_cond, ↓z_cnd, ↓z_gdt, c4, ↓z_skip, ↓z_seq, ↓z_region, ↓z_convert, ↓y_ty5, ↓z_cvt_int, ↓z_cv_int, ↓z_cvi_u8_i64, ↓z_fieldAddr, ↓y_fl24x0, not_false_eq_true, ↓z_fa_ptr, ↓z_bn_rem, ↓z_rem_i64, ↓z_assign, ↓y_ty24, ↓y_sz24, ↓z_agTy_st, ↓z_rd_t, List.length_cons, List.length_nil, Nat.reduceAdd, Nat.reduceLeDiff, ↓z_sub_c, ↓z_sub_nil, ↓z_callv, ↓evW_func, ↓z_evL_cons, ↓z_evL_nil, ↓z_fun0, ↓z_coeL_cons, ↓z_coe_oag, ↓z_coeC_cons, ↓z_coeS_int, ↓z_coeS_sl, ↓z_coeC_nil, ↓z_coe_int, ↓z_coeL_nil, true_and])
  have x0 : 0 ≤ a.tmod acc := Int.tmod_nonneg _ ha.1
  have x1 : a.tmod acc < acc := Int.tmod_lt_of_pos _ (by omega)
  repeat (refine And.intro (by omega) ?_)
  generalize a.tmod acc = x at x0 x1
  have hS : ∀ f t, 0 ≤ f → f ≤ t → t ≤ 1000001 → FnF GH Tryd.prog 22 [.agg [.int .i64 acc, .sl 6 ps.length (List.flatMap poC ps)], .int .i64 x, .int .i64 f, .int .i64 t] (.tup [.agg [.int .i64 (balT x (f - 1) ps), .sl 1 (lnZ x f t ps).length ((lnZ x f t ps).map (D.int .i64)), .int .i64 (balT x (t - 1) ps)], .int .i64 0]) := fun f t h1 h2 h3 => by
    have e := spE_0 c0 x0 x1 h1 h2 h3
    exact (fn_Statement GH acc x f t ps).out (by unfold stO stC stL; rw [e]; rfl)
  have hT : ∀ f t, 0 ≤ f → f ≤ t → t ≤ 1000001 → FnF GH Tryd.prog 24 [.agg [.int .i64 acc, .sl 6 ps.length (List.flatMap poC ps)], .int .i64 x, .int .i64 f, .int .i64 t] (.tup [.sl 1 8 (((List.range 8).map fun (w : Nat) => totZ x f t w ps).map (D.int .i64)), .int .i64 0]) := fun f t h1 h2 h3 => by
    have e := spE_0 c0 x0 x1 h1 h2 h3
    exact (fn_Totals GH acc x f t ps).out (by unfold toL; rw [e]; rfl)
  refine call_fr (hS t0 t1 (by omega) (by omega) (by omega)) fun _ => ?_
  (simp -dsimp only [↓z_put, Nat.reduceLT, ↓z_ops_plain, ↓z_move, ↓evW_tmp, ↓lkW_cons, ↓reduceIte, ↓z_extract, ↓z_ex, ↓nthW_cons, Nat.reduceEqDiff, reduceCtorEq, Nat.reduceSub, ↓z_alloc, ↓y_zr56, ↓z_new, ↓z_nm_cons, ↓z_nmC_cons, ↓z_mn'_int, ↓z_nmC_nil, and_self, ↓z_mn'_sl, ↓z_nm_nil, Nat.zero_add, Nat.reduceAdd, ↓z_pg_cons, ↓z_mn_int, ↓z_mn_agg, ↓z_mn_tup, ↓z_mn_ptr, ↓z_mn_oag, ↓z_mnL_int, ↓z_mnL_sl, ↓z_mnL_nil, ↓z_mn_bool, ↓z_mn_sl, ↓z_pg_nil, ↓z_store, ↓y_sz56, ↓z_cl_agg, List.length_cons, List.length_nil, ↓z_store_ptr, ↓lkoW_cons, Nat.reduceLeDiff, ↓spsW_cons, ↓drW_cons, ↓drW_nil, ↓z_cat_nil_r, ↓z_so_cons, ↓z_put_none, ↓z_assign, ↓z_ops_nil, ↓z_seq_nrm, ↓z_seq, ↓z_region, ↓z_load, ↓y_ty24, ↓y_sz24, ↓z_agTy_st, ↓loadW_ptr, ↓z_rd_t, ↓z_sub_c, ↓z_sub_nil, ↓z_indexAddr, ↓evW_const, ↓constW_int, inR_i64, Int.reduceNeg, Int.reduceLE, ↓y_ty71, ↓z_elTy_arr, ↓y_sz3, ↓z_ix_ptr, ↓y_ty3, ↓z_agTy_int, ↓z_rd_f, Int.reduceToNat, Nat.mul_one, ↓z_callv, ↓evW_func, ↓z_evL_cons, ↓z_evL_nil, ↓z_fun0, ↓z_coeL_cons, ↓z_coe_oag, ↓z_coeC_cons, ↓z_coeS_int, ↓z_coeS_sl, ↓z_coeC_nil, ↓z_coe_int, ↓z_coeL_nil, true_and])
  repeat (refine And.intro (by omega) ?_)
  refine call_fr (hS t1 t2 (by omega) (by omega) (by omega)) fun _ => ?_
  (simp -dsimp only [↓z_put, Nat.reduceLT, ↓z_ops_plain, ↓z_move, ↓evW_tmp, ↓lkW_cons, ↓reduceIte, ↓z_extract, ↓z_ex, ↓nthW_cons, Nat.reduceEqDiff, reduceCtorEq, Nat.reduceSub, ↓z_alloc, ↓y_zr56, ↓z_new, ↓z_nm_cons, ↓z_nmC_cons, ↓z_mn'_int, ↓z_mn'_sl, ↓z_nmC_nil, and_self, ↓z_nm_nil, Nat.zero_add, Nat.reduceAdd, ↓z_pg_cons, ↓z_mn_int, ↓z_mn_agg, ↓z_mn_tup, ↓z_mn_ptr, ↓z_mn_oag, ↓z_mnL_int, ↓z_mnL_sl, ↓z_mnL_nil, ↓z_mn_bool, ↓z_mn_sl, ↓z_pg_nil, ↓z_store, ↓y_sz56, ↓z_cl_agg, List.length_cons, List.length_nil, ↓z_store_ptr, ↓lkoW_cons, Nat.reduceLeDiff, ↓spsW_cons, ↓drW_cons, ↓drW_nil, ↓z_cat_nil_r, ↓z_so_cons, ↓z_put_none, ↓z_assign, ↓z_ops_nil, ↓z_seq_nrm, ↓z_seq, ↓z_region, ↓z_load, ↓y_ty24, ↓y_sz24, ↓z_agTy_st, ↓loadW_ptr, ↓z_rd_t, ↓z_sub_c, ↓z_sub_nil, ↓z_indexAddr, ↓evW_const, ↓constW_int, inR_i64, Int.reduceNeg, Int.reduceLE, ↓y_ty71, ↓z_elTy_arr, ↓y_sz3, ↓z_ix_ptr, ↓y_ty3, ↓z_agTy_int, ↓z_rd_f, Int.reduceToNat, Nat.mul_one, ↓z_callv, ↓evW_func, ↓z_evL_cons, ↓z_evL_nil, ↓z_fun0, ↓z_coeL_cons, ↓z_coe_oag, ↓z_coeC_cons, ↓z_coeS_int, ↓z_coeS_sl, ↓z_coeC_nil, ↓z_coe_int, ↓z_coeL_nil, true_and])
  repeat (refine And.intro (by omega) ?_)
  refine call_fr (hS t0 t2 (by omega) (by omega) (by omega)) fun _ => ?_
  (simp -dsimp only [↓z_put, Nat.reduceLT, ↓z_ops_plain, ↓z_move, ↓evW_tmp, ↓lkW_cons, ↓reduceIte, ↓z_extract, ↓z_ex, ↓nthW_cons, Nat.reduceEqDiff, reduceCtorEq, Nat.reduceSub, ↓z_alloc, ↓y_zr56, ↓z_new, ↓z_nm_cons, ↓z_nmC_cons, ↓z_mn'_int, ↓z_mn'_sl, ↓z_nmC_nil, and_self, ↓z_nm_nil, Nat.zero_add, Nat.reduceAdd, ↓z_pg_cons, ↓z_mn_int, ↓z_mn_agg, ↓z_mn_tup, ↓z_mn_ptr, ↓z_mn_oag, ↓z_mnL_int, ↓z_mnL_sl, ↓z_mnL_nil, ↓z_mn_bool, ↓z_mn_sl, ↓z_pg_nil, ↓z_store, ↓y_sz56, ↓z_cl_agg, List.length_cons, List.length_nil, ↓z_store_ptr, ↓lkoW_cons, Nat.reduceLeDiff, ↓spsW_cons, ↓drW_cons, ↓drW_nil, ↓z_cat_nil_r, ↓z_so_cons, ↓z_put_none, ↓z_assign, ↓z_ops_nil, ↓z_seq_nrm, ↓z_seq, ↓z_region, ↓z_load, ↓y_ty24, ↓y_sz24, ↓z_agTy_st, ↓loadW_ptr, ↓z_rd_t, ↓z_sub_c, ↓z_sub_nil, ↓z_indexAddr, ↓evW_const, ↓constW_int, inR_i64, Int.reduceNeg, Int.reduceLE, ↓y_ty71, ↓z_elTy_arr, ↓y_sz3, ↓z_ix_ptr, ↓y_ty3, ↓z_agTy_int, ↓z_rd_f, Int.reduceToNat, Nat.mul_one, ↓z_callv, ↓evW_func, ↓z_evL_cons, ↓z_evL_nil, ↓z_fun0, ↓z_coeL_cons, ↓z_coe_oag, ↓z_coeC_cons, ↓z_coeS_int, ↓z_coeS_sl, ↓z_coeC_nil, ↓z_coe_int, ↓z_coeL_nil, true_and])
  repeat (refine And.intro (by omega) ?_)
  refine call_fr (hT t0 t2 (by omega) (by omega) (by omega)) fun _ => ?_
  (simp -dsimp only [↓z_put, Nat.reduceLT, ↓z_ops_plain, ↓z_move, ↓evW_tmp, ↓lkW_cons, ↓reduceIte, ↓z_extract, ↓z_ex, ↓nthW_cons, Nat.reduceEqDiff, reduceCtorEq, Nat.reduceSub, ↓z_assign, ↓z_ops_nil, ↓z_seq_nrm, ↓z_seq, ↓z_region, ↓z_binOp, ↓evW_const, ↓constW_int, inR_i64, Int.reduceNeg, Int.reduceLE, and_self, ↓z_bn_neq, ↓z_ops_guard, ↓z_grd, ↓z_dst_s, ↓z_dst_0, ↓z_grdD_b, ↓z_gdf, ne_eq, not_true_eq_false, ↓z_gff, ↓z_pick, ↓z_pick_b, ↓z_gft, ↓z_callb, ↓z_evL_cons, ↓z_evL_nil, ↓z_len, ↓y_ty54, ↓z_ln_sl, ↓z_cond, ↓z_cnd, ↓z_gdt, ↓constW_bool, ↓z_ret, ↓z_seq_rt, ↓z_end_rt, resLW, res1W, Nat.zero_add, Int.reduceToNat, Nat.mul_one, Nat.reduceAdd, ↓z_coeL_cons, ↓z_coeL_nil, ↓z_pack1, ↓z_coe_bool, D.bool.injEq, true_and, ↓z_skip, ↓z_fieldAddr, ↓y_fl56x0, ↓y_sz3, not_false_eq_true, ↓z_fa_ptr, ↓z_load, ↓y_ty3, ↓z_agTy_int, ↓loadW_ptr, ↓lkoW_cons, ↓z_rd_f, ↓z_block, ↓z_loop, z_ite, Classical.not_not])
  refine ⟨fun h => absurd rfl h, fun _ => ?_⟩
  have hj := ln_join (x := x) hb.srt (show t0 ≤ t1 by omega) (show t1 ≤ t2 by omega)
  have hbs := bal_split (x := x) (show t0 ≤ t2 by omega) ps
  have hta := tot_all (x := x) (f := t0) (t := t2) hb
  have hend := lnAmt_end (x := x) (f := t0) (t := t2) ps
  have hat := @lnZ_at x t0 t2 ps
  have hl1 := lnZ_len (x := x) (f := t0) (t := t1) ps
  have hl2' := lnZ_len (x := x) (f := t1) (t := t2) ps
  have hl3 := lnZ_len (x := x) (f := t0) (t := t2) ps
  have bb0 := bal_le (x := x) (tick := t0 - 1) hb
  have bb2 := bal_le (x := x) (tick := t2 - 1) hb
  generalize lnZ x t0 t1 ps = L1 at hj hl1
  generalize lnZ x t1 t2 ps = L2 at hj hl2'
  generalize lnZ x t0 t2 ps = L3 at hj hl3 hend hat
  generalize balT x (t0 - 1) ps = b0 at hbs bb0
  generalize balT x (t1 - 1) ps = b1
  generalize balT x (t2 - 1) ps = b2 at hbs bb2
  refine hold_intro ⟨[], Nat, fun i => ⟨216, 5, [(17, .int .i64 i), (16, .int .i64 (b0 + lnAmt x t0 t2 ps i)), (14, .sl 1 8 (((List.range 8).map fun (w : Nat) => totZ x t0 t2 w ps).map (D.int .i64))), (12, .ptr 4 0), (10, .ptr 3 0), (8, .ptr 2 0), (7, .int .i64 x), (6, .bool false), (3, .ptr 0 0)], [(4, [.int .i64 b0, .sl 1 L3.length (L3.map (D.int .i64)), .int .i64 b2]), (3, [.int .i64 b1, .sl 1 L2.length (L2.map (D.int .i64)), .int .i64 b2]), (2, [.int .i64 b0, .sl 1 L1.length (L1.map (D.int .i64)), .int .i64 b1]), (0, [.int .i64 acc, .sl 6 ps.length (List.flatMap poC ps)])]⟩, fun i => i ≤ L3.length, fun i => L3.length - i, ?_, ?_⟩
  · (simp -dsimp only [↓z_ad_nil, ↓z_wk, ↓z_wkE_cons, ↓lkW_cons, ↓reduceIte, D.int.injEq, true_and, Nat.reduceEqDiff, Nat.zero_add, Nat.reduceAdd, ↓z_wkE_nil, and_self, and_true, ↓z_wkO_cons, ↓lkoW_cons, reduceCtorEq, ↓z_wkO_nil]); (try simp only [Int.toNat_natCast, Nat.mul_one, Bool.or_false, Bool.false_or, Bool.or_self, Bool.or_true])
    exact ⟨0, by omega, rfl, by show b0 = b0 + 0; omega⟩
  intro i hi
  have am := amt_le (x := x) (f := t0) (t := t2) hb (i + 1)
  by_cases h : i < L3.length
  · obtain ⟨k, hk, e1, e2, e3⟩ := hat h
    have hsub := fun c => po_sub hk c
    have hl2 := po_len ps
    have hok := hb.ok _ (List.getElem_mem hk)
    have hG := fn_Got GH x ps[k] (ok_amt hok)
    unfold poC at hG
    have hne := got_ne hok e2
    have hnth : ∀ q : D → Prop, nthW (L3.map (D.int .i64)) ((i : Int).toNat * 1) q = q (.int .i64 (k : Int)) := fun q => nthW_iff (by rw [Int.toNat_natCast, Nat.mul_one, List.getElem?_map, List.getElem?_eq_getElem h, e1]; rfl)
    have hlt : ((i : Int) < (L3.length : Int)) = True := eq_true (by omega)
    have hk0 : ((k : Int) < 0) = False := eq_false (by omega)
    have hk1 : ((ps.length : Int) ≤ (k : Int)) = False := eq_false (by omega)
    (simp -dsimp only [↓z_seq, ↓z_region, ↓z_ops_plain, ↓z_move, ↓evW_tmp, ↓lkW_cons, ↓reduceIte, ↓z_put, Nat.reduceLT, ↓z_fieldAddr, Nat.reduceEqDiff, ↓y_fl56x1, ↓y_sz54, ne_eq, reduceCtorEq, not_false_eq_true, ↓z_fa_ptr, ↓z_load, ↓y_ty54, ↓z_agTy_sl, ↓loadW_ptr, ↓lkoW_cons, ↓z_rd_f, ↓nthW_cons, Nat.zero_add, Nat.reduceSub, ↓z_callb, ↓z_evL_cons, ↓z_evL_nil, ↓z_len, ↓z_ln_sl, ↓z_binOp, ↓z_bn_lss, ↓z_ops_nil, ↓z_seq_nrm, ↓z_cond, ↓z_cnd, ↓z_gdt, hlt, ↓z_skip, ↓z_block, ↓z_indexAddr, ↓z_elTy_sl, ↓y_sz3, ↓z_ix_sl, ↓y_ty3, ↓z_agTy_int, ↓loadW_rop, ↓hnth, ↓z_assign, ↓evW_const, ↓constW_int, inR_i64, Int.reduceNeg, Int.reduceLE, and_self, ↓z_ops_guard, ↓z_grd, ↓z_dst_s, ↓z_dst_0, ↓z_grdD_b, ↓z_gdf, hk0, ↓z_gff, ↓y_fl24x1, ↓y_sz22, ↓y_ty22, ↓z_bn_geq, ↓z_pick, ↓z_pick_b, ↓z_gft, hk1, ↓y_sz26, ↓y_ty26, ↓z_agTy_st, ↓z_rd_t, hl2, ↓hsub, ↓z_callv, ↓evW_func, ↓z_fun0, ↓z_coeL_cons, ↓z_coe_agg, ↓z_coe_int, ↓z_coeL_nil, true_and]); (try simp only [Int.toNat_natCast])
    refine ⟨by omega, by omega, by omega, by omega, ?_⟩
    refine call_fn hG fun _ => ?_
    (simp -dsimp only [↓z_put, Nat.reduceLT, ↓z_ops_plain, ↓z_assign, ↓evW_tmp, ↓lkW_cons, ↓reduceIte, ↓z_ops_nil, ↓z_seq_nrm, ↓z_seq, ↓z_region, ↓z_move, ↓z_binOp, ↓evW_const, ↓constW_int, inR_i64, Int.reduceNeg, Int.reduceLE, and_self, ↓z_bn_eql, ↓z_cond, ↓z_cnd, ↓z_gdt, hne, ↓z_skip, Nat.reduceEqDiff, ↓z_bn_add, ↓wrW_i64, ↓z_blk_nrm, ↓z_lp_nrm, ↓z_wk, ↓z_wkE_cons, D.int.injEq, true_and, ↓z_wkE_nil, and_true, ↓z_wkO_cons, ↓lkoW_cons, reduceCtorEq, ↓z_wkO_nil]); (try simp only [Int.toNat_natCast, Nat.mul_one, Bool.or_false, Bool.false_or, Bool.or_self, Bool.or_true])
    exact ⟨by omega, by omega, i + 1, by omega, by omega, by omega, by omega⟩
  · have hlt : ((i : Int) < (L3.length : Int)) = False := eq_false (by omega)
    (simp -dsimp only [↓z_seq, ↓z_region, ↓z_ops_plain, ↓z_move, ↓evW_tmp, ↓lkW_cons, ↓reduceIte, ↓z_put, Nat.reduceLT, ↓z_fieldAddr, Nat.reduceEqDiff, ↓y_fl56x1, ↓y_sz54, ne_eq, reduceCtorEq, not_false_eq_true, ↓z_fa_ptr, ↓z_load, ↓y_ty54, ↓z_agTy_sl, ↓loadW_ptr, ↓lkoW_cons, ↓z_rd_f, ↓nthW_cons, Nat.zero_add, Nat.reduceSub, ↓z_callb, ↓z_evL_cons, ↓z_evL_nil, ↓z_len, ↓z_ln_sl, ↓z_binOp, ↓z_bn_lss, ↓z_ops_nil, ↓z_seq_nrm, ↓z_cond, ↓z_cnd, ↓z_gdt, hlt, ↓z_exit, ↓z_seq_ext, ↓z_lp_ext, ↓z_blk_ext, ↓z_assign, ↓evW_const, ↓constW_int, inR_i64, Int.reduceNeg, Int.reduceLE, and_self, ↓z_block, ↓z_loop, true_and])
    have ei : i = L3.length := by omega
    have hsum : b0 + lnAmt x t0 t2 ps i = b2 := by rw [ei, hend, hbs]
    have hto : sumR (fun w => totZ x t0 t2 w ps) 8 = b2 - b0 := by rw [hbs]; show (List.map _ (List.range 8)).sum = _; rw [hta]; omega
    refine hold_intro ⟨[], Nat, fun w => ⟨216, 5, [(21, .int .i64 w), (20, .int .i64 (sumR (fun w => totZ x t0 t2 w ps) w)), (16, .int .i64 (b0 + lnAmt x t0 t2 ps i)), (14, .sl 1 8 (((List.range 8).map fun (w : Nat) => totZ x t0 t2 w ps).map (D.int .i64))), (12, .ptr 4 0), (10, .ptr 3 0), (8, .ptr 2 0), (7, .int .i64 x), (6, .bool false), (3, .ptr 0 0)], [(4, [.int .i64 b0, .sl 1 L3.length (L3.map (D.int .i64)), .int .i64 b2]), (3, [.int .i64 b1, .sl 1 L2.length (L2.map (D.int .i64)), .int .i64 b2]), (2, [.int .i64 b0, .sl 1 L1.length (L1.map (D.int .i64)), .int .i64 b1]), (0, [.int .i64 acc, .sl 6 ps.length (List.flatMap poC ps)])]⟩, fun w => w ≤ 8, fun w => 8 - w, ?_, ?_⟩
    · (simp -dsimp only [↓z_ad_nil, ↓z_wk, ↓z_wkE_cons, ↓lkW_cons, ↓reduceIte, D.int.injEq, true_and, Nat.reduceEqDiff, ↓z_wkE_nil, and_self, and_true, ↓z_wkO_cons, ↓lkoW_cons, reduceCtorEq, ↓z_wkO_nil]); (try simp only [Int.toNat_natCast, Nat.mul_one, Bool.or_false, Bool.false_or, Bool.or_self, Bool.or_true])
      exact ⟨0, by omega, rfl, rfl⟩
    intro w hw
    have s1 := sumR_le (f := fun w => totZ x t0 t2 w ps) (m := 10995116277760000) (fun w => tot_le hb) w
    have s3 : sumR (fun w => totZ x t0 t2 w ps) (w + 1) = sumR (fun w => totZ x t0 t2 w ps) w + totZ x t0 t2 w ps := sumR_s _ w
    have s5 := tot_le (x := x) (f := t0) (t := t2) (w := w) hb
    have hm : (w : Int) * 10995116277760000 ≤ 8 * 10995116277760000 := Int.mul_le_mul_of_nonneg_right (by omega) (by decide)
    by_cases h8 : w < 8
    · have hlt8 : ((w : Int) < 8) = True := eq_true (by omega)
      have hnth : ∀ q : D → Prop, nthW (((List.range 8).map fun (w : Nat) => totZ x t0 t2 w ps).map (D.int .i64)) ((w : Int).toNat * 1) q = q (.int .i64 (totZ x t0 t2 w ps)) := fun q => nthW_iff (by rw [Int.toNat_natCast, Nat.mul_one, List.getElem?_map, List.getElem?_map, List.getElem?_range h8]; rfl)
      (simp -dsimp only [↓z_seq, ↓z_region, ↓z_ops_plain, ↓z_move, ↓evW_tmp, ↓lkW_cons, ↓reduceIte, ↓z_put, Nat.reduceLT, ↓z_binOp, ↓evW_const, ↓constW_int, inR_i64, Int.reduceNeg, Int.reduceLE, and_self, ↓z_bn_lss, ↓z_ops_nil, ↓z_seq_nrm, ↓z_cond, ↓z_cnd, ↓z_gdt, hlt8, ↓z_skip, ↓z_block, Nat.reduceEqDiff, ↓z_indexAddr, ↓y_ty54, ↓z_elTy_sl, ↓y_sz3, ↓z_ix_sl, ↓z_load, ↓y_ty3, ↓z_agTy_int, ↓loadW_rop, ↓z_rd_f, ↓hnth, ↓z_bn_add, ↓wrW_i64, ↓z_assign, ↓z_blk_nrm, ↓z_lp_nrm, ↓z_wk, ↓z_wkE_cons, D.int.injEq, true_and, ↓z_wkE_nil, and_true, ↓z_wkO_cons, ↓lkoW_cons, reduceCtorEq, ↓z_wkO_nil]); (try simp only [Int.toNat_natCast, Nat.mul_one, Bool.or_false, Bool.false_or, Bool.or_self, Bool.or_true])
      exact ⟨by omega, by omega, by omega, by omega, w + 1, by omega, by omega, by omega, s3.symm⟩
    · have hlt8 : ((w : Int) < 8) = False := eq_false (by omega)
      have ew : w = 8 := by omega
      subst ew
      (simp -dsimp only [↓z_seq, ↓z_region, ↓z_ops_plain, ↓z_move, ↓evW_tmp, ↓lkW_cons, ↓reduceIte, ↓z_put, Nat.reduceLT, ↓z_binOp, ↓evW_const, ↓constW_int, inR_i64, Int.reduceNeg, Int.reduceLE, and_self, ↓z_bn_lss, ↓z_ops_nil, ↓z_seq_nrm, ↓z_cond, ↓z_cnd, ↓z_gdt, hlt8, ↓z_exit, ↓z_seq_ext, ↓z_lp_ext, ↓z_blk_ext, ↓z_region_d, ↓y_mix, true_and]); (try simp only [Int.toNat_natCast, Nat.mul_one, Bool.or_false, Bool.false_or, Bool.or_self, Bool.or_true])
      refine rgn_c 7 [5] [169, 172] [3, 6] [(20, .int .i64 (sumR (fun w => totZ x t0 t2 w ps) 8)), (16, .int .i64 (b0 + lnAmt x t0 t2 ps i)), (12, .ptr 4 0), (10, .ptr 3 0), (8, .ptr 2 0)] [] [(4, [.int .i64 b0, .sl 1 L3.length (L3.map (D.int .i64)), .int .i64 b2]), (3, [.int .i64 b1, .sl 1 L2.length (L2.map (D.int .i64)), .int .i64 b2]), (2, [.int .i64 b0, .sl 1 L1.length (L1.map (D.int .i64)), .int .i64 b1]), (0, [.int .i64 acc, .sl 6 ps.length (List.flatMap poC ps)])] (by decide +kernel) ?_
      (simp -dsimp only [↓z_wkE_cons, ↓lkW_cons, Nat.reduceEqDiff, ↓reduceIte, ↓z_wkE_nil, and_self, ↓z_wkO_cons, ↓lkoW_cons, reduceCtorEq, ↓z_wkO_nil, ↓z_nmTE_cons, ↓z_nmT_int, ↓z_nmT_ptr, not_false_eq_true, ↓z_nmT_nil, ↓z_nmTE_nil, ↓z_noEs_cons, ↓z_noE_cons, ↓z_noE_nil, ↓z_noEs_nil, ↓z_inE_nil, List.take_succ_cons, List.take_zero, ↓z_drc_buildSlice, ↓z_nbW_cons, ↓z_nbW_nil, ↓z_drcS, ↓z_grd_none, ↓z_withE, ↓z_mpO_nil, ↓z_ap_nil, ↓z_apO_cons, ↓z_apO_nil, ↓z_or_buildSlice, ↓z_buildSlice, ↓y_ty54, ↓z_slTy, ↓y_sz3, Nat.mul_one, Nat.reduceLeDiff, maxLen_lit, ↓y_zr3, List.length_cons, List.length_nil, Nat.zero_add, ↓z_repL_0, ↓z_bld_nil, ↓z_allP_nil, and_true, true_and, ↓z_exD_all, ↓z_exD_all2, ↓z_exD_eq, ↓z_nmT_slx, ↓z_put, Nat.reduceLT, ↓z_drcK, ↓z_drc_fieldAddr, ↓z_rd_tmp, ↓z_rd_nil, ↓z_ap_cons, ↓z_or_fieldAddr, ↓z_fieldAddr, ↓evW_tmp, ↓y_fl56x1, ↓y_sz54, ne_eq, ↓z_fa_ptr, ↓z_drc_load, Nat.reduceAdd, ↓z_or_load, ↓z_load, ↓z_agTy_sl, ↓loadW_ptr, ↓z_rd_f, ↓nthW_cons, Nat.reduceSub, ↓z_nmT_sl, ↓z_drc_callb_app, ↓z_putF_some, ↓z_dstP_some, ↓z_drc_nil]); (try simp only [Int.toNat_natCast, Nat.mul_one, Bool.or_false, Bool.false_or, Bool.or_self, Bool.or_true])
      refine ch_mk [(166, .slx 1 0 []), (168, .sl 1 L1.length (L1.map (D.int .i64)))] (.osl 5 1 L1.length) (some 5) 6 [(5, L1.map (D.int .i64)), (4, [.int .i64 b0, .sl 1 L3.length (L3.map (D.int .i64)), .int .i64 b2]), (3, [.int .i64 b1, .sl 1 L2.length (L2.map (D.int .i64)), .int .i64 b2]), (2, [.int .i64 b0, .sl 1 L1.length (L1.map (D.int .i64)), .int .i64 b1]), (0, [.int .i64 acc, .sl 6 ps.length (List.flatMap poC ps)])] [(169, .osl 5 1 L1.length)] rfl rfl (by simp) (by simp [ebW]) rfl (fun E => ?_) ?_
      · (simp -dsimp only [↓z_ap_cons, ↓z_ap_nil, ↓z_callb, ↓z_evL_cons, ↓evW_tmp, ↓lkW_cons, ↓reduceIte, Nat.reduceEqDiff, ↓z_evL_nil, ↓z_append, ↓y_ty54, ↓z_slTy, ↓z_nint_sl, ↓y_sz3, ↓y_by3, ↓y_zr3, List.length_cons, List.length_nil, Nat.zero_add, ↓z_src_sl, ↓z_app_slx, ↓z_room, maxLen_lit, ↓z_new, ↓z_nm_cons, ↓z_nmC_cons, ↓z_mn'_int, ↓z_mn'_sl, ↓z_nmC_nil, and_self, ↓z_nm_nil, Nat.reduceLT, ↓z_pg_cons, ↓z_mn_slx, ↓z_mn_sl, Nat.reduceAdd, true_and, List.nil_append, reduceCtorEq, false_and, or_false]); (try simp only [Int.toNat_natCast, Nat.mul_one, Bool.or_false, Bool.false_or, Bool.or_self, Bool.or_true])
        exact ⟨by omega, by omega, .inl (by simp [pgW, pE, purge, mn])⟩
      (simp -dsimp only [↓z_wkE_cons, ↓lkW_cons, Nat.reduceEqDiff, ↓reduceIte, ↓z_wkE_nil, and_self, ↓z_inE_cons, ↓z_memW_cons, ↓z_inE_nil, ↓z_wkO_cons, ↓lkoW_cons, reduceCtorEq, ↓z_wkO_nil, true_and]); (try simp only [Int.toNat_natCast, Nat.mul_one, Bool.or_false, Bool.false_or, Bool.or_self, Bool.or_true])
      refine ch_mk [(171, .sl 1 L2.length (L2.map (D.int .i64)))] (.osl 5 1 (L1.length + L2.length)) (some 5) 6 [(5, L1.map (D.int .i64) ++ L2.map (D.int .i64)), (4, [.int .i64 b0, .sl 1 L3.length (L3.map (D.int .i64)), .int .i64 b2]), (3, [.int .i64 b1, .sl 1 L2.length (L2.map (D.int .i64)), .int .i64 b2]), (2, [.int .i64 b0, .sl 1 L1.length (L1.map (D.int .i64)), .int .i64 b1]), (0, [.int .i64 acc, .sl 6 ps.length (List.flatMap poC ps)])] [(172, .osl 5 1 (L1.length + L2.length))] rfl rfl (by simp) (by simp [ebW]) rfl (fun E => ?_) ?_
      · (simp -dsimp only [↓z_ap_cons, ↓z_ap_nil, ↓z_callb, ↓z_evL_cons, ↓evW_tmp, ↓lkW_cons, ↓reduceIte, Nat.reduceEqDiff, ↓z_evL_nil, ↓z_append, ↓y_ty54, ↓z_slTy, ↓z_nint_sl, ↓y_sz3, ↓y_by3, ↓y_zr3, List.length_cons, List.length_nil, Nat.zero_add, ↓z_src_sl, ↓z_app_osl, ↓lkoW_cons, List.length_map, Nat.mul_one, ↓z_nmC_int, Nat.reduceLT, ↓z_room, maxLen_lit, ↓z_pgo_cons, ↓z_pgc_nm, ↓z_nmC_cons, ↓z_mn'_int, ↓z_mn'_sl, ↓z_nmC_nil, and_self, ↓z_pgo_nil, ↓z_pg_cons, ↓z_mn_osl, ↓z_mn_sl, ↓z_so_cons, true_and]); (try simp only [Int.toNat_natCast, Nat.mul_one, Bool.or_false, Bool.false_or, Bool.or_self, Bool.or_true])
        exact ⟨by omega, by omega, by simp [pgW, pE, purge, mn]⟩
      (simp -dsimp only [↓z_wkE_cons, ↓lkW_cons, Nat.reduceEqDiff, ↓reduceIte, ↓z_wkE_nil, and_self, ↓z_inE_cons, ↓z_memW_cons, ↓z_inE_nil, ↓z_wkO_cons, ↓lkoW_cons, reduceCtorEq, ↓z_wkO_nil, true_and]); (try simp only [Int.toNat_natCast, Nat.mul_one, Bool.or_false, Bool.false_or, Bool.or_self, Bool.or_true])
      refine ch_end ?_
      (simp -dsimp only [↓z_ap_cons, ↓z_ap_nil, List.drop_succ_cons, List.drop_zero, ↓z_seq, ↓z_region, ↓z_ops_plain, ↓z_callv, ↓evW_func, ↓z_evL_nil, ↓z_fun0, ↓z_coeL_nil, resLW, res1W, ↓z_coeL_cons, ↓z_pack1, ↓z_assign, ↓evW_tmp, ↓lkW_cons, ↓reduceIte, ↓z_put, Nat.reduceLT, ↓z_ops_nil, ↓z_seq_nrm, true_and]); (try simp only [Int.toNat_natCast, Nat.mul_one, Bool.or_false, Bool.false_or, Bool.or_self, Bool.or_true])
      refine hs ?_
      (simp -dsimp only [↓z_put, Nat.reduceLT, ↓z_ops_plain, ↓z_move, ↓evW_tmp, ↓lkW_cons, ↓reduceIte, ↓z_ops_guard, ↓z_grd, ↓z_dst_s, ↓z_dst_0, ↓z_grdD_b, ↓z_gtt, Nat.reduceEqDiff, ↓z_fieldAddr, ↓y_fl56x2, ↓y_sz3, ne_eq, reduceCtorEq, not_false_eq_true, ↓z_fa_ptr, ↓z_load, ↓y_ty3, ↓z_agTy_int, ↓loadW_ptr, ↓lkoW_cons, ↓z_rd_f, ↓nthW_cons, Nat.zero_add, Nat.reduceSub, ↓z_binOp, ↓z_bn_eql, ↓z_pick, ↓z_pick_b, ↓z_gdt, hsum, ↓y_fl56x0, ↓z_bn_sub, ↓wrW_i64, inR_i64, Int.reduceNeg, hto, ↓y_fl56x1, ↓y_sz54, ↓y_ty54, ↓z_agTy_sl, ↓z_callv, ↓evW_func, ↓z_evL_cons, ↓z_evL_nil, ↓z_fun0, ↓z_coeL_cons, ↓z_coe_osl, ↓z_allP_app, ↓z_allP_int, and_self, List.length_append, List.length_map, Nat.mul_one, ↓z_coe_sl, ↓z_coeL_nil, true_and]); (try simp only [Int.toNat_natCast, Nat.mul_one, Bool.or_false, Bool.false_or, Bool.or_self, Bool.or_true])
      have hI := (fn_SameInts GH (L1 ++ L2) L3).out (congrArg D.bool (decide_eq_true hj))
      refine ⟨by omega, call_fnL (hI.inp (by unfold slI; rw [List.length_append, List.map_append])) rfl fun _ => ?_⟩
      (simp -dsimp only [↓z_put, Nat.reduceLT, ↓z_ops_plain, ↓z_pick, ↓evW_tmp, ↓lkW_cons, Nat.reduceEqDiff, ↓reduceIte, ↓z_pick_b, ↓z_gtt, ↓z_assign, ↓z_ops_nil, ↓z_seq_nrm, ↓z_ret, ↓z_end_rt, resLW, res1W, Nat.zero_add, ↓z_coeL_cons, ↓z_coeL_nil, ↓z_pack1, ↓z_coe_bool, and_self]); (try simp only [Int.toNat_natCast, Nat.mul_one, Bool.or_false, Bool.false_or, Bool.or_self, Bool.or_true])
end Go.Abs

