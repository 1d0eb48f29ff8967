/-
  BILL, tenth walks: balances add up.
-/
import Derived.Test.YtccipobbdohdpaaDoorB9
namespace Go.Abs
open Go.Proofs
def sumR (f : Nat → Int) (k : Nat) : Int := ((List.range k).map f).sum
theorem sumR_s (f : Nat → Int) (k : Nat) : sumR f (k + 1) = sumR f k + f k := by
  unfold sumR; rw [List.range_succ, List.map_append, sum_app]; simp
theorem sumR_le {f : Nat → Int} {m : Int} (h : ∀ k, -m ≤ f k ∧ f k ≤ m) (k : Nat) : -((k : Int) * m) ≤ sumR f k ∧ sumR f k ≤ (k : Int) * m := by
  have := sum_le (f := f) (m := m) (l := List.range k) fun x _ => h x
  rw [List.length_range] at this
  exact this
theorem owZ_le {acc x y tick : Int} {ps : List Po} (hb : BkOk acc ps) : -10995116277760000 ≤ owZ x y tick ps ∧ owZ x y tick ps ≤ 10995116277760000 := by
  have h1 := ow_le (x := x) (y := y) (tick := tick) hb
  have h2 := ow_le (x := y) (y := x) (tick := tick) hb
  unfold owZ; omega
theorem balE_ok {acc x : Int} {ps : List Po} (h : chkB acc ps = 0) (h0 : 0 ≤ x) (h1 : x < acc) : balE acc ps x = 0 := by unfold balE; rw [if_pos h, if_pos ⟨h0, h1⟩]
theorem owN_ok {acc x y tick : Int} {ps : List Po} (h : chkB acc ps = 0) (h0 : 0 ≤ x) (h1 : x < acc) (h2 : 0 ≤ y) (h3 : y < acc) : owN acc ps x y tick = owZ x y tick ps := if_pos ⟨h, ⟨h0, h1⟩, h2, h3⟩
theorem owE_ok {acc x y : Int} {ps : List Po} (h : chkB acc ps = 0) (h0 : 0 ≤ x) (h1 : x < acc) (h2 : 0 ≤ y) (h3 : y < acc) : owE acc ps x y = 0 := by unfold owE; rw [if_pos h, if_pos ⟨⟨h0, h1⟩, h2, h3⟩]
set_option maxRecDepth 100000 in
set_option maxHeartbeats 8000000 in
theorem fn_LawA (acc : Int) (ps : List Po) (a0 a1 tick : Int) (ha : 0 ≤ a0 ∧ a0 ≤ 255) (hb1 : 0 ≤ a1 ∧ a1 ≤ 255) : Fn GH Tryd.prog 5 [.agg (bkC acc ps), .agg [.int .u8 a0, .int .u8 a1], .int .i64 tick] (.bool true) := by
  have hC := fn_Check GH acc ps
  unfold bkC at hC ⊢
  refine Fn.mk (c := _) Tryd.func5 rfl rfl Tryd.ntmps5 Tryd.results5 ?_
  (simp -dsimp only [bodyW, List.length_cons, List.length_nil, Nat.zero_add, Nat.reduceAdd, Nat.reduceLeDiff, wfL, ↓z_seq, ↓z_region, ↓z_ops_plain, ↓z_box, ↓evW_tmp, ↓z_lk_env, ↓reduceIte, ↓z_cl_agg, ↓z_nmC_cons, ↓z_mn'_int, ↓z_mn'_sl, ↓z_nmC_nil, and_self, ↓z_new, ↓z_nm_nil, Nat.reduceLT, ↓z_pg_env, ↓z_mn_agg, ↓z_mn_int, ↓z_pg_env0, ↓z_put, ↓lkW_cons, Nat.reduceEqDiff, reduceCtorEq, ↓z_nm_cons, ↓z_pg_cons, ↓z_mn_ptr, ↓z_pg_nil, ↓z_assign, ↓evW_const, ↓constW_bool, ↓z_ops_nil, ↓z_seq_nrm, ↓z_fieldAddr, ↓y_fl24x1, ↓y_sz22, ne_eq, not_false_eq_true, ↓z_fa_ptr, ↓z_load, ↓y_ty22, ↓z_agTy_sl, ↓loadW_ptr, ↓lkoW_cons, ↓z_rd_f, ↓nthW_cons, Nat.reduceSub, ↓z_callb, ↓z_evL_cons, ↓z_evL_nil, ↓z_len, ↓z_ln_sl, ↓z_binOp, ↓constW_int, inR_i64, Int.reduceNeg, Int.reduceLE, ↓z_bn_gtr, ↓z_move, ↓z_ops_guard, ↓z_grd, ↓z_dst_s, ↓z_dst_0, ↓z_grdD_b, ↓z_gdf, ↓z_gnf, ↓z_gft, ↓z_pick, ↓z_pick_b, ↓z_gnt, ↓z_gff, ↓z_cond, ↓z_cnd, ↓z_gtt, ↓z_callv, ↓evW_func, ↓z_fun0, ↓z_coeL_nil, true_and, ↓y_ty24, ↓y_sz24, ↓z_agTy_st, ↓z_rd_t, ↓z_sub_c, ↓z_sub_nil, ↓z_coeL_cons, ↓z_coe_oag, ↓z_coeC_cons, ↓z_coeS_int, ↓z_coeS_sl, ↓z_coeC_nil, z_ite])
  intro hd _ _
  have hs : ∀ {S : St} {k : D → St → Prop} {bb : Bool} {u : Tag (callW GH Tryd.prog 8 [] bb S k)}, k (.bool true) S → hold (callW GH Tryd.prog 8 [] bb S k) u := fun hk => call_fnL fn_sanity rfl fun _ => hk
  refine ⟨fun g => hs (by (simp -dsimp only [↓z_put, Nat.reduceLT, ↓z_ops_plain, ↓z_assign, ↓evW_tmp, ↓lkW_cons, ↓reduceIte, ↓z_ops_nil, ↓z_seq_nrm, ↓z_ret, ↓z_seq_rt, ↓z_end_rt, resLW, res1W, Bool.not_false, Nat.zero_add, Nat.reduceAdd, ↓z_coeL_cons, ↓z_coeL_nil, ↓z_pack1, ↓z_coe_bool, and_self]); (try simp only [Int.toNat_natCast, Nat.mul_one, Bool.or_false, Bool.false_or, Bool.or_self, Bool.or_true])), fun g => call_fnL hC rfl fun _ => ?_⟩
  (simp -dsimp only [↓z_put, Nat.reduceLT, ↓z_ops_guard, ↓z_grd, ↓z_dst_s, ↓z_dst_0, ↓lkW_cons, Nat.reduceEqDiff, ↓reduceIte, ↓z_grdD_b, ↓z_gff, ↓z_binOp, ↓evW_tmp, ↓evW_const, ↓constW_int, inR_i64, Int.reduceNeg, Int.reduceLE, and_self, ↓z_bn_neq, ↓z_ops_plain, ↓z_pick, ↓z_pick_b, ↓z_gft, ↓z_ops_nil, ↓z_seq_nrm, ↓z_cond, ↓z_cnd, ↓z_gdt, ne_eq, ↓z_seq, ↓z_region, ↓z_callv, ↓evW_func, ↓z_evL_nil, ↓z_fun0, ↓z_coeL_nil, ↓z_skip, ↓z_indexAddr, ↓y_ty69, ↓z_elTy_arr, ↓y_sz5, ↓z_ix_ptr, ↓z_load, ↓y_ty5, ↓z_agTy_int, ↓loadW_ptr, ↓lkoW_cons, Nat.zero_add, ↓z_rd_f, ↓nthW_cons, Int.reduceToNat, Nat.mul_one, ↓z_convert, ↓y_ty3, ↓z_cvt_int, ↓z_cv_int, ↓z_cvi_u8_i64, ↓z_fieldAddr, ↓y_fl24x0, ↓y_sz3, reduceCtorEq, not_false_eq_true, ↓z_fa_ptr, ↓z_bn_rem, ↓z_rem_i64, ↓z_assign, Nat.reduceSub, ↓z_block, ↓z_loop, true_and, z_ite, Classical.not_not])
  refine ⟨fun c0 => hs (by (simp -dsimp only [↓z_put, Nat.reduceLT, ↓z_ops_plain, ↓z_assign, ↓evW_tmp, ↓lkW_cons, ↓reduceIte, ↓z_ops_nil, ↓z_seq_nrm, ↓z_ret, ↓z_seq_rt, ↓z_end_rt, resLW, res1W, ne_eq, Nat.zero_add, Nat.reduceAdd, ↓z_coeL_cons, ↓z_coeL_nil, ↓z_pack1, ↓z_coe_bool, and_self]); (try simp only [Int.toNat_natCast, Nat.mul_one, Bool.or_false, Bool.false_or, Bool.or_self, Bool.or_true])), fun c0 => ?_⟩
  have hb := chkB_ok c0
  have w1 := hb.a1
  have w2 := hb.a2
  have x0 : 0 ≤ a0.tmod acc := Int.tmod_nonneg _ ha.1
  have x1 : a0.tmod acc < acc := Int.tmod_lt_of_pos _ (by omega)
  have y0 : 0 ≤ a1.tmod acc := Int.tmod_nonneg _ hb1.1
  have y1 : a1.tmod acc < acc := Int.tmod_lt_of_pos _ (by omega)
  refine ⟨by omega, by omega, by omega, by omega, ?_⟩
  generalize a0.tmod acc = x at x0 x1
  generalize a1.tmod acc = y at y0 y1
  have hB : ∀ z, 0 ≤ z → z < acc → Fn GH Tryd.prog 18 [.agg [.int .i64 acc, .sl 6 ps.length (List.flatMap poC ps)], .int .i64 z, .int .i64 tick] (.tup [.int .i64 (balT z tick ps), .int .i64 0]) := fun z h1 h2 => (fn_Balance GH acc z tick ps).out (by rw [balN_ok c0 h1 h2, balE_ok c0 h1 h2])
  have hO : ∀ z w, 0 ≤ z → z < acc → 0 ≤ w → w < acc → Fn GH Tryd.prog 20 [.agg [.int .i64 acc, .sl 6 ps.length (List.flatMap poC ps)], .int .i64 z, .int .i64 w, .int .i64 tick] (.tup [.int .i64 (owZ z w tick ps), .int .i64 0]) := fun z w h1 h2 h3 h4 => (fn_Owes GH acc z w tick ps).out (by rw [owN_ok c0 h1 h2 h3 h4, owE_ok c0 h1 h2 h3 h4])
  refine hold_intro ⟨[], Nat, fun k => ⟨128, 2, [(11, .int .i64 k), (10, .int .i64 (sumR (fun k => owZ k x tick ps) k)), (9, .int .i64 (sumR (fun k => balT k tick ps) k)), (8, .int .i64 y), (7, .int .i64 x), (6, .bool false), (3, .ptr 0 0), (2, .int .i64 tick)], [(0, [.int .i64 acc, .sl 6 ps.length (List.flatMap poC ps)])]⟩, fun k => k ≤ acc.toNat, fun k => acc.toNat - k, ?_, ?_⟩
  · (simp -dsimp only [↓z_ad_nil, ↓z_wk, ↓z_wkE_cons, ↓lkW_cons, ↓reduceIte, D.int.injEq, true_and, Nat.reduceEqDiff, reduceCtorEq, Nat.zero_add, Nat.reduceAdd, ↓z_wkE_nil, and_self, and_true, ↓z_wkO_cons, ↓lkoW_cons, ↓z_wkO_nil]); (try simp only [Int.toNat_natCast, Nat.mul_one, Bool.or_false, Bool.false_or, Bool.or_self, Bool.or_true])
    exact ⟨0, by omega, rfl, rfl, rfl⟩
  intro k hk
  have s1 := sumR_le (f := fun k => balT k tick ps) (m := 10995116277760000) (fun k => bal_le hb) k
  have s2 := sumR_le (f := fun k => owZ k x tick ps) (m := 10995116277760000) (fun k => owZ_le hb) k
  have s3 : sumR (fun k => balT k tick ps) (k + 1) = sumR (fun k => balT k tick ps) k + balT k tick ps := sumR_s _ k
  have s4 : sumR (fun k => owZ k x tick ps) (k + 1) = sumR (fun k => owZ k x tick ps) k + owZ k x tick ps := sumR_s _ k
  have s5 := bal_le (x := k) (tick := tick) hb
  have s6 := owZ_le (x := k) (y := x) (tick := tick) hb
  have hm : (k : Int) * 10995116277760000 ≤ 40 * 10995116277760000 := Int.mul_le_mul_of_nonneg_right (by omega) (by decide)
  by_cases h : k < acc.toNat
  · have hlt : ((k : Int) < acc) = True := eq_true (by omega)
    (simp -dsimp only [↓z_seq, ↓z_region, ↓z_ops_plain, ↓z_move, ↓evW_tmp, ↓lkW_cons, ↓reduceIte, ↓z_put, Nat.reduceLT, ↓z_fieldAddr, Nat.reduceEqDiff, ↓y_fl24x0, ↓y_sz3, ne_eq, reduceCtorEq, not_false_eq_true, ↓z_fa_ptr, ↓z_load, ↓y_ty3, ↓z_agTy_int, ↓loadW_ptr, ↓lkoW_cons, ↓z_rd_f, ↓nthW_cons, Nat.zero_add, ↓z_binOp, ↓z_bn_lss, ↓z_ops_nil, ↓z_seq_nrm, ↓z_cond, ↓z_cnd, ↓z_gdt, hlt, ↓z_skip, ↓z_block, ↓y_ty24, ↓y_sz24, ↓z_agTy_st, ↓z_rd_t, List.length_cons, List.length_nil, Nat.reduceAdd, Nat.reduceLeDiff, ↓z_sub_c, ↓z_sub_nil, ↓z_callv, ↓evW_func, ↓z_evL_cons, ↓z_evL_nil, ↓z_fun0, ↓z_coeL_cons, ↓z_coe_oag, ↓z_coeC_cons, ↓z_coeS_int, ↓z_coeS_sl, ↓z_coeC_nil, ↓z_coe_int, ↓z_coeL_nil, true_and])
    refine call_fn (hB k (by omega) (by omega)) fun _ => ?_
    (simp -dsimp only [↓z_put, Nat.reduceLT, ↓z_ops_plain, ↓z_move, ↓evW_tmp, ↓lkW_cons, ↓reduceIte, ↓z_extract, ↓z_ex, ↓nthW_cons, Nat.reduceEqDiff, reduceCtorEq, Nat.reduceSub, ↓z_assign, ↓z_ops_nil, ↓z_seq_nrm, ↓z_seq, ↓z_region, ↓z_load, ↓y_ty24, ↓y_sz24, ↓z_agTy_st, ↓loadW_ptr, ↓lkoW_cons, ↓z_rd_t, Nat.zero_add, List.length_cons, List.length_nil, Nat.reduceAdd, Nat.reduceLeDiff, ↓z_sub_c, ↓z_sub_nil, ↓z_callv, ↓evW_func, ↓z_evL_cons, ↓z_evL_nil, ↓z_fun0, ↓z_coeL_cons, ↓z_coe_oag, ↓z_coeC_cons, ↓z_coeS_int, ↓z_coeS_sl, ↓z_coeC_nil, ↓z_coe_int, ↓z_coeL_nil, true_and]); (try simp only [Int.toNat_natCast, Nat.mul_one, Bool.or_false, Bool.false_or, Bool.or_self, Bool.or_true])
    refine call_fn (hO k x (by omega) (by omega) x0 x1) fun _ => ?_
    (simp -dsimp only [↓z_put, Nat.reduceLT, ↓z_ops_plain, ↓z_move, ↓evW_tmp, ↓lkW_cons, ↓reduceIte, ↓z_extract, ↓z_ex, ↓nthW_cons, Nat.reduceEqDiff, reduceCtorEq, Nat.reduceSub, ↓z_assign, ↓z_ops_nil, ↓z_seq_nrm, ↓z_seq, ↓z_region, ↓z_binOp, ↓evW_const, ↓constW_int, inR_i64, Int.reduceNeg, Int.reduceLE, and_self, ↓z_bn_neq, ↓z_ops_guard, ↓z_grd, ↓z_dst_s, ↓z_dst_0, ↓z_grdD_b, ↓z_gdf, ne_eq, not_true_eq_false, ↓z_gff, ↓z_pick, ↓z_pick_b, ↓z_gft, ↓z_cond, ↓z_cnd, ↓z_gdt, ↓z_skip, ↓z_bn_add, ↓wrW_i64, ↓z_blk_nrm, ↓z_lp_nrm, ↓z_wk, ↓z_wkE_cons, D.int.injEq, true_and, ↓z_wkE_nil, and_true, ↓z_wkO_cons, ↓lkoW_cons, ↓z_wkO_nil]); (try simp only [Int.toNat_natCast, Nat.mul_one, Bool.or_false, Bool.false_or, Bool.or_self, Bool.or_true])
    exact ⟨by omega, by omega, by omega, k + 1, by omega, by omega, by omega, s4.symm, s3.symm⟩
  · have hlt : ((k : Int) < acc) = False := eq_false (by omega)
    have ek : k = acc.toNat := by omega
    have e1 : sumR (fun k => balT k tick ps) k = 0 := by rw [ek]; exact bal_all hb
    have e2 : sumR (fun k => owZ k x tick ps) k = balT x tick ps := by rw [ek]; exact ow_all hb
    (simp -dsimp only [↓z_seq, ↓z_region, ↓z_ops_plain, ↓z_move, ↓evW_tmp, ↓lkW_cons, ↓reduceIte, ↓z_put, Nat.reduceLT, ↓z_fieldAddr, Nat.reduceEqDiff, ↓y_fl24x0, ↓y_sz3, ne_eq, reduceCtorEq, not_false_eq_true, ↓z_fa_ptr, ↓z_load, ↓y_ty3, ↓z_agTy_int, ↓loadW_ptr, ↓lkoW_cons, ↓z_rd_f, ↓nthW_cons, Nat.zero_add, ↓z_binOp, ↓z_bn_lss, ↓z_ops_nil, ↓z_seq_nrm, ↓z_cond, ↓z_cnd, ↓z_gdt, hlt, ↓z_exit, ↓z_seq_ext, ↓z_lp_ext, ↓z_blk_ext, ↓y_ty24, ↓y_sz24, ↓z_agTy_st, ↓z_rd_t, List.length_cons, List.length_nil, Nat.reduceAdd, Nat.reduceLeDiff, ↓z_sub_c, ↓z_sub_nil, ↓z_callv, ↓evW_func, ↓z_evL_cons, ↓z_evL_nil, ↓z_fun0, ↓z_coeL_cons, ↓z_coe_oag, ↓z_coeC_cons, ↓z_coeS_int, ↓z_coeS_sl, ↓z_coeC_nil, ↓z_coe_int, ↓z_coeL_nil, true_and])
    refine call_fn (hB x x0 x1) fun _ => ?_
    (simp -dsimp only [↓z_put, Nat.reduceLT, ↓z_ops_plain, ↓z_move, ↓evW_tmp, ↓lkW_cons, ↓reduceIte, ↓z_extract, ↓z_ex, ↓nthW_cons, Nat.reduceEqDiff, reduceCtorEq, Nat.reduceSub, ↓z_assign, ↓z_ops_nil, ↓z_seq_nrm, ↓z_seq, ↓z_region, ↓z_load, ↓y_ty24, ↓y_sz24, ↓z_agTy_st, ↓loadW_ptr, ↓lkoW_cons, ↓z_rd_t, Nat.zero_add, List.length_cons, List.length_nil, Nat.reduceAdd, Nat.reduceLeDiff, ↓z_sub_c, ↓z_sub_nil, ↓z_callv, ↓evW_func, ↓z_evL_cons, ↓z_evL_nil, ↓z_fun0, ↓z_coeL_cons, ↓z_coe_oag, ↓z_coeC_cons, ↓z_coeS_int, ↓z_coeS_sl, ↓z_coeC_nil, ↓z_coe_int, ↓z_coeL_nil, true_and]); (try simp only [Int.toNat_natCast, Nat.mul_one, Bool.or_false, Bool.false_or, Bool.or_self, Bool.or_true])
    refine call_fn (hO x y x0 x1 y0 y1) fun _ => ?_
    (simp -dsimp only [↓z_put, Nat.reduceLT, ↓z_ops_plain, ↓z_move, ↓evW_tmp, ↓lkW_cons, ↓reduceIte, ↓z_extract, ↓z_ex, ↓nthW_cons, Nat.reduceEqDiff, reduceCtorEq, Nat.reduceSub, ↓z_assign, ↓z_ops_nil, ↓z_seq_nrm, ↓z_seq, ↓z_region, ↓z_load, ↓y_ty24, ↓y_sz24, ↓z_agTy_st, ↓loadW_ptr, ↓lkoW_cons, ↓z_rd_t, Nat.zero_add, List.length_cons, List.length_nil, Nat.reduceAdd, Nat.reduceLeDiff, ↓z_sub_c, ↓z_sub_nil, ↓z_callv, ↓evW_func, ↓z_evL_cons, ↓z_evL_nil, ↓z_fun0, ↓z_coeL_cons, ↓z_coe_oag, ↓z_coeC_cons, ↓z_coeS_int, ↓z_coeS_sl, ↓z_coeC_nil, ↓z_coe_int, ↓z_coeL_nil, true_and]); (try simp only [Int.toNat_natCast, Nat.mul_one, Bool.or_false, Bool.false_or, Bool.or_self, Bool.or_true])
    refine call_fn (hO y x y0 y1 x0 x1) fun _ => ?_
    (simp -dsimp only [↓z_put, Nat.reduceLT, ↓z_ops_plain, ↓z_move, ↓evW_tmp, ↓lkW_cons, ↓reduceIte, ↓z_extract, ↓z_ex, ↓nthW_cons, Nat.reduceEqDiff, reduceCtorEq, Nat.reduceSub, ↓z_assign, ↓z_ops_nil, ↓z_seq_nrm, ↓z_seq, ↓z_region, ↓z_callv, ↓evW_func, ↓z_evL_nil, ↓z_fun0, ↓z_coeL_nil, true_and]); (try simp only [Int.toNat_natCast, Nat.mul_one, Bool.or_false, Bool.false_or, Bool.or_self, Bool.or_true])
    refine hs ?_
    (simp -dsimp only [↓z_put, Nat.reduceLT, ↓z_ops_plain, ↓z_move, ↓evW_tmp, ↓lkW_cons, ↓reduceIte, ↓z_ops_guard, ↓z_grd, ↓z_dst_s, ↓z_dst_0, ↓z_grdD_b, ↓z_gtt, Nat.reduceEqDiff, ↓z_binOp, ↓evW_const, ↓constW_int, inR_i64, Int.reduceNeg, Int.reduceLE, and_self, ↓z_bn_eql, ↓z_pick, ↓z_pick_b, ↓z_gdt, ↓z_unOp, ↓z_un_neg, ↓wrW_i64, ↓z_assign, ↓z_ops_nil, ↓z_seq_nrm, ↓z_ret, ↓z_end_rt, resLW, res1W, Nat.zero_add, ↓z_coeL_cons, ↓z_coeL_nil, ↓z_pack1, ↓z_coe_bool, D.bool.injEq, decide_eq_true_eq, true_and, ↓z_gnt, ↓z_gtf, ↓constW_bool, Bool.not_true, reduceCtorEq, z_ite, ↓z_gft]); (try simp only [Int.toNat_natCast, Nat.mul_one, Bool.or_false, Bool.false_or, Bool.or_self, Bool.or_true])
    have b7 := owZ_le (x := y) (y := x) (tick := tick) hb
    exact ⟨fun _ => ⟨fun _ => ⟨by omega, by unfold owZ; omega⟩, fun h => h e2⟩, fun h => h e1⟩
end Go.Abs

