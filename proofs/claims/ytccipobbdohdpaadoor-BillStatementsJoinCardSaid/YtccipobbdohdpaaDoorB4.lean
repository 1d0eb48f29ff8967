/-
  BILL, third walks: what accounts owe; statements.
-/
import Derived.Test.YtccipobbdohdpaaDoorB3
import Derived.Test.YtccipobbdohdpaaDoorAbs32
namespace Go.Abs
open Go.Proofs
theorem owT_s {x y tick : Int} {ps : List Po} {i : Nat} (h : i < ps.length) : (ps[i].t ≤ tick ∧ ps[i].c = x ∧ ps[i].d = y ∧ owT x y tick (ps.take (i + 1)) = owT x y tick (ps.take i) + ps[i].a) ∨ (¬ (ps[i].t ≤ tick ∧ ps[i].c = x ∧ ps[i].d = y) ∧ owT x y tick (ps.take (i + 1)) = owT x y tick (ps.take i)) := by
  have e : owT x y tick (ps.take (i + 1)) = owT x y tick (ps.take i) + if ps[i].t ≤ tick then owP x y ps[i] else 0 := by
    unfold owT
    rw [show ps.take (i + 1) = ps.take i ++ [ps[i]] by simp, List.filter_append, List.map_append, sum_app]
    congr 1
    split
    · rename_i g; rw [List.filter_cons_of_pos (by simpa using g)]; simp
    · rename_i g; rw [List.filter_cons_of_neg (by simpa using g)]; simp
  rw [e]
  unfold owP
  split
  · split
    · rename_i g1 g2; exact .inl ⟨g1, g2.1, g2.2, rfl⟩
    · rename_i g1 g2; exact .inr ⟨fun h => g2 h.2, by omega⟩
  · rename_i g1; exact .inr ⟨fun h => g1 h.1, by omega⟩
set_option maxRecDepth 100000 in
set_option maxHeartbeats 4000000 in
theorem fn_given (G : Glob) (acc x y tick : Int) (ps : List Po) (hb : BkOk acc ps) : Fn G Tryd.prog 42 [.int .i64 x, .int .i64 y, .rop (bkC acc ps) 0, .rop [.int .i64 tick] 0] (.int .i64 (owT x y tick ps)) := by
  unfold bkC
  refine Fn.mk (c := _) Tryd.func42 rfl rfl Tryd.ntmps42 Tryd.results42 ?_
  have hlen := hb.len
  (simp -dsimp only [bodyW, List.length_cons, List.length_nil, Nat.zero_add, Nat.reduceAdd, Nat.reduceLeDiff, wfL, ↓z_seq, ↓z_region, ↓z_ops_plain, ↓z_assign, ↓evW_const, ↓constW_int, inR_i64, Int.reduceNeg, Int.reduceLE, and_self, ↓z_put, Nat.reduceLT, ↓z_ops_nil, ↓z_seq_nrm, ↓z_fieldAddr, ↓evW_tmp, ↓lkW_cons, Nat.reduceEqDiff, ↓reduceIte, ↓z_lk_env, reduceCtorEq, ↓y_fl24x1, ↓y_sz22, ne_eq, not_false_eq_true, ↓z_fa_rop, ↓z_load, ↓y_ty22, ↓z_agTy_sl, ↓loadW_rop, ↓z_rd_f, ↓nthW_cons, Nat.reduceSub, ↓z_callb, ↓z_evL_cons, ↓z_evL_nil, ↓z_len, ↓z_ln_sl, ↓z_move, ↓z_block, ↓z_loop, true_and])
  intro _ _ hd _
  refine hold_intro ⟨[], Nat, fun i => ⟨39, 0, [(13, .int .i64 i), (12, .int .i64 ps.length), (11, .sl 6 ps.length (List.flatMap poC ps)), (7, .int .i64 (owT x y tick (ps.take i))), (0, .int .i64 x), (1, .int .i64 y), (3, .rop [.int .i64 tick] 0)], []⟩, fun i => i ≤ ps.length, fun i => ps.length - i, ?_, ?_⟩
  · (simp -dsimp only [↓z_ad_nil, ↓z_wk, ↓z_wkE_cons, ↓lkW_cons, ↓reduceIte, D.int.injEq, true_and, Nat.reduceEqDiff, reduceCtorEq, ↓z_lk_env, Nat.zero_add, Nat.reduceAdd, ↓z_wkE_nil, and_self, and_true, ↓z_wkO_nil]); (try simp only [Int.toNat_natCast, Nat.mul_one, Bool.or_false, Bool.false_or, Bool.or_self, Bool.or_true])
    exact ⟨0, by omega, rfl, rfl⟩
  intro i hi
  by_cases h : i < ps.length
  · have hl2 := po_len ps
    have hsub := fun k => po_sub h k
    have hlt : ((i : Int) < (ps.length : Int)) = True := eq_true (by omega)
    have hs := owT_s (x := x) (y := y) (tick := tick) h
    have h1 := ow_le (x := x) (y := y) (tick := tick) (bk_take hb (i + 1))
    (simp -dsimp only [↓z_seq, ↓z_region, ↓z_ops_plain, ↓z_binOp, ↓evW_tmp, ↓lkW_cons, ↓reduceIte, Nat.reduceEqDiff, ↓z_bn_lss, ↓z_put, Nat.reduceLT, ↓z_ops_nil, ↓z_seq_nrm, ↓z_cond, ↓z_cnd, ↓z_gdt, hlt, ↓z_skip, ↓z_block, ↓z_indexAddr, ↓y_ty22, ↓z_elTy_sl, ↓y_sz26, ↓z_ix_sl, ↓z_load, ↓y_ty26, ↓z_agTy_st, ↓loadW_rop, ↓z_rd_t, hl2, ↓hsub, ↓z_alloc, ↓y_zr26, ↓z_new, ↓z_nm_nil, ↓z_pg_cons, ↓z_mn_agg, ↓z_mn_rop, ↓z_mn_bool, ↓z_mn_int, ↓z_mn_sl, ↓z_pg_nil, ↓z_store, ↓z_cl_agg, List.length_cons, List.length_nil, Nat.zero_add, Nat.reduceAdd, ↓z_store_ptr, ↓lkoW_cons, Nat.reduceLeDiff, ↓spsW_cons, ↓drW_cons, reduceCtorEq, Nat.reduceSub, ↓drW_nil, ↓z_cat_nil_r, ↓z_so_cons, ↓z_put_none, ↓z_fieldAddr, ↓y_fl26x3, ↓y_sz3, ne_eq, not_false_eq_true, ↓z_fa_ptr, ↓y_ty3, ↓z_agTy_int, ↓loadW_ptr, ↓z_rd_f, ↓nthW_cons, ↓z_bn_leq, ↓z_move, ↓z_ops_guard, ↓z_grd, ↓z_dst_s, ↓z_dst_0, ↓z_grdD_b, ↓y_fl26x1, ↓z_gtt, ↓z_bn_eql, ↓z_pick, ↓z_pick_b, ↓y_fl26x0, ↓y_fl26x2, ↓z_bn_add, ↓wrW_i64, inR_i64, Int.reduceNeg, ↓z_assign, ↓z_blk_nrm, ↓evW_const, ↓constW_int, Int.reduceLE, and_self, ↓z_lp_nrm, ↓z_wk, ↓z_wkE_cons, D.int.injEq, true_and, ↓z_wkE_nil, and_true, ↓z_wkO_nil, z_ite, ↓z_gnt, ↓z_gtf, ↓constW_bool, ↓z_gft]); (try simp only [Int.toNat_natCast])
    refine ⟨by omega, by omega, ?_⟩
    repeat' (first | (refine ⟨by omega, i + 1, by omega, by omega, by omega, by omega⟩) | (refine ⟨by omega, by omega, i + 1, by omega, by omega, by omega, by omega⟩) | (intro _) | (apply And.intro))
  · have hlt : ((i : Int) < (ps.length : Int)) = False := eq_false (by omega)
    (simp -dsimp only [↓z_seq, ↓z_region, ↓z_ops_plain, ↓z_binOp, ↓evW_tmp, ↓lkW_cons, ↓reduceIte, Nat.reduceEqDiff, ↓z_bn_lss, ↓z_put, Nat.reduceLT, ↓z_ops_nil, ↓z_seq_nrm, ↓z_cond, ↓z_cnd, ↓z_gdt, hlt, ↓z_exit, ↓z_seq_ext, ↓z_lp_ext, ↓z_blk_ext, ↓z_move, ↓z_assign, ↓z_ret, ↓z_end_rt, resLW, res1W, ↓z_coeL_cons, ↓z_coeL_nil, ↓z_pack1, ↓z_coe_int, D.int.injEq, true_and]); (try simp only [Int.toNat_natCast, Nat.mul_one, Bool.or_false, Bool.false_or, Bool.or_self, Bool.or_true])
    rw [List.take_of_length_le (by omega)]
def owN (acc : Int) (ps : List Po) (x y tick : Int) : Int := if chkB acc ps = 0 ∧ (0 ≤ x ∧ x < acc) ∧ 0 ≤ y ∧ y < acc then owZ x y tick ps else 0
def owE (acc : Int) (ps : List Po) (x y : Int) : Int := if chkB acc ps = 0 then (if (0 ≤ x ∧ x < acc) ∧ 0 ≤ y ∧ y < acc then 0 else 8) else chkB acc ps
set_option maxRecDepth 100000 in
set_option maxHeartbeats 4000000 in
theorem fn_Owes (G : Glob) (acc x y tick : Int) (ps : List Po) : Fn G Tryd.prog 20 [.agg (bkC acc ps), .int .i64 x, .int .i64 y, .int .i64 tick] (.tup [.int .i64 (owN acc ps x y tick), .int .i64 (owE acc ps x y)]) := by
  have hC := fn_Check G acc ps
  have hA := fn_account G acc x ps
  have hB := fn_account G acc y ps
  unfold bkC at hC hA hB ⊢
  unfold owN owE
  refine Fn.mk (c := _) Tryd.func20 rfl rfl Tryd.ntmps20 Tryd.results20 ?_
  (simp -dsimp only [bodyW, List.length_cons, List.length_nil, Nat.zero_add, Nat.reduceAdd, Nat.reduceLeDiff, wfL, ↓z_seq, ↓z_region, ↓z_ops_plain, ↓z_box, ↓evW_tmp, ↓z_lk_env, ↓reduceIte, ↓z_cl_agg, ↓z_nmC_cons, ↓z_mn'_int, ↓z_mn'_sl, ↓z_nmC_nil, and_self, ↓z_new, ↓z_nm_nil, Nat.reduceLT, ↓z_pg_env, ↓z_mn_agg, ↓z_mn_int, ↓z_pg_env0, ↓z_put, ↓lkW_cons, Nat.reduceEqDiff, reduceCtorEq, ↓z_cl_int, ↓z_nm_cons, ↓z_pg_cons, ↓z_mn_ptr, ↓z_pg_nil, ↓z_assign, ↓evW_const, ↓constW_int, inR_i64, Int.reduceNeg, Int.reduceLE, ↓z_ops_nil, ↓z_seq_nrm, ↓z_load, ↓y_ty24, ↓y_sz24, ↓z_agTy_st, ↓loadW_ptr, ↓lkoW_cons, ↓z_rd_t, ↓z_sub_c, ↓z_sub_nil, ↓z_callv, ↓evW_func, ↓z_evL_cons, ↓z_evL_nil, ↓z_fun0, ↓z_coeL_cons, ↓z_coe_oag, ↓z_coeC_cons, ↓z_coeS_int, ↓z_coeS_sl, ↓z_coeC_nil, ↓z_coeL_nil, true_and])
  intro hd _ _ _
  refine call_fn hC fun _ => ?_
  (simp -dsimp only [↓z_put, Nat.reduceLT, ↓z_ops_plain, ↓z_assign, ↓evW_tmp, ↓lkW_cons, ↓reduceIte, ↓z_ops_nil, ↓z_seq_nrm, ↓z_seq, ↓z_region, ↓z_move, ↓z_binOp, ↓evW_const, ↓constW_int, inR_i64, Int.reduceNeg, Int.reduceLE, and_self, ↓z_bn_neq, ↓z_cond, ↓z_cnd, ↓z_gdt, ne_eq, Nat.reduceEqDiff, ↓z_ret, ↓z_seq_rt, ↓z_end_rt, resLW, res1W, Nat.zero_add, Nat.reduceAdd, ↓z_coeL_cons, ↓z_coeL_nil, ↓z_pack2, D.tup.injEq, List.cons.injEq, and_true, ↓z_coe_int, D.int.injEq, true_and, ↓z_skip, ↓z_load, ↓y_ty24, ↓y_sz24, ↓z_agTy_st, ↓loadW_ptr, ↓lkoW_cons, reduceCtorEq, ↓z_rd_t, List.length_cons, List.length_nil, Nat.reduceLeDiff, ↓z_sub_c, ↓z_sub_nil, ↓z_callv, ↓evW_func, ↓z_evL_cons, ↓z_evL_nil, ↓z_fun0, ↓z_coe_oag, ↓z_coeC_cons, ↓z_coeS_int, ↓z_coeS_sl, ↓z_coeC_nil, z_ite, Classical.not_not])
  refine ⟨fun c0 => ⟨by rw [if_neg (fun h => c0 h.1)], by rw [if_neg c0]⟩, fun c0 => ?_⟩
  have hb := chkB_ok c0
  refine call_fn hA fun _ => ?_
  (simp -dsimp only [↓z_put, Nat.reduceLT, ↓z_ops_plain, ↓z_unOp, ↓evW_tmp, ↓lkW_cons, ↓reduceIte, ↓z_un_not, ↓z_move, ↓z_ops_guard, ↓z_grd, ↓z_dst_s, ↓z_dst_0, ↓z_grdD_b, ↓z_gnf, ↓z_gdt, ↓z_load, Nat.reduceEqDiff, ↓y_ty24, ↓y_sz24, ↓z_agTy_st, ↓loadW_ptr, ↓lkoW_cons, Nat.zero_add, reduceCtorEq, ↓z_rd_t, List.length_cons, List.length_nil, Nat.reduceAdd, Nat.reduceLeDiff, ↓z_sub_c, ↓z_sub_nil, ↓z_gff, ↓z_callv, ↓evW_func, ↓z_evL_cons, ↓z_evL_nil, ↓z_fun0, ↓z_coeL_cons, ↓z_coe_oag, ↓z_coeC_cons, ↓z_coeS_int, ↓z_coeS_sl, ↓z_coeC_nil, ↓z_coe_int, ↓z_coeL_nil, true_and, ↓z_gft, ↓z_pick, ↓z_pick_b, ↓z_gnt, ↓evW_const, ↓constW_bool, ↓z_ops_nil, ↓z_seq_nrm, ↓z_cond, ↓z_cnd, ↓z_gtt, ↓z_seq, ↓z_region, ↓z_assign, ↓constW_int, inR_i64, Int.reduceNeg, Int.reduceLE, and_self, ↓z_ret, ↓z_seq_rt, ↓z_end_rt, resLW, res1W, Bool.not_false, ne_eq, ↓z_pack2, D.tup.injEq, List.cons.injEq, and_true, D.int.injEq, z_ite])
  refine ⟨fun c1 => ?_, fun c1 => ⟨by rw [if_neg (by omega)], by rw [if_pos c0, if_neg (by omega)]⟩⟩
  refine call_fn hB fun _ => ?_
  (simp -dsimp only [↓z_put, Nat.reduceLT, ↓z_ops_guard, ↓z_grd, ↓z_dst_s, ↓z_dst_0, ↓lkW_cons, Nat.reduceEqDiff, ↓reduceIte, ↓z_grdD_b, ↓z_gff, ↓z_unOp, ↓evW_tmp, ↓z_un_not, ↓z_ops_plain, ↓z_pick, ↓z_pick_b, ↓z_gft, ↓z_ops_nil, ↓z_seq_nrm, ↓z_cond, ↓z_cnd, ↓z_gnt, ↓z_gdf, ↓z_skip, ↓z_seq, ↓z_region, ↓z_makeFunc, ↓z_evL_cons, ↓z_evL_nil, ↓z_assign, ↓z_move, reduceCtorEq, Nat.zero_add, Nat.reduceAdd, ↓z_callv, ↓z_ofun, ne_eq, List.cons_append, List.nil_append, ↓z_coeL_cons, ↓z_coe_int, ↓z_coe_ptr, ↓lkoW_cons, ↓z_allP_cons, ↓z_isP_int, ↓z_isP_sl, ↓z_allP_nil, and_self, ↓z_coeL_nil, true_and, ↓evW_const, ↓constW_int, inR_i64, Int.reduceNeg, Int.reduceLE, ↓z_ret, ↓z_seq_rt, ↓z_end_rt, resLW, res1W, ↓z_pack2, D.tup.injEq, List.cons.injEq, and_true, D.int.injEq, z_ite]); (try simp only [Int.toNat_natCast, Nat.mul_one, Bool.or_false, Bool.false_or, Bool.or_self, Bool.or_true])
  refine ⟨fun c2 => ?_, fun c2 => ⟨by rw [if_neg (by omega)], by rw [if_pos c0, if_neg (by omega)]⟩⟩
  rw [if_pos ⟨c0, c1, c2⟩, if_pos c0, if_pos ⟨c1, c2⟩]
  have h1 := fn_given G acc x y tick ps hb
  have h2 := fn_given G acc y x tick ps hb
  have b1 := ow_le (x := x) (y := y) (tick := tick) hb
  have b2 := ow_le (x := y) (y := x) (tick := tick) hb
  unfold bkC at h1 h2
  refine call_fnL h1 rfl fun _ => ?_
  (simp -dsimp only [↓z_put, Nat.reduceLT, ↓z_ops_plain, ↓z_move, ↓evW_tmp, ↓lkW_cons, Nat.reduceEqDiff, ↓reduceIte, reduceCtorEq, Nat.zero_add, Nat.reduceAdd, ↓z_callv, ↓z_evL_cons, ↓z_evL_nil, ↓z_ofun, ne_eq, List.cons_append, List.nil_append, ↓z_coeL_cons, ↓z_coe_int, ↓z_coe_ptr, ↓lkoW_cons, ↓z_allP_cons, ↓z_isP_int, ↓z_isP_sl, ↓z_allP_nil, and_self, ↓z_coeL_nil, true_and]); (try simp only [Int.toNat_natCast, Nat.mul_one, Bool.or_false, Bool.false_or, Bool.or_self, Bool.or_true])
  refine call_fnL h2 rfl fun _ => ?_
  (simp -dsimp only [↓z_put, Nat.reduceLT, ↓z_ops_plain, ↓z_binOp, ↓evW_tmp, ↓lkW_cons, Nat.reduceEqDiff, ↓reduceIte, ↓z_bn_sub, ↓wrW_i64, inR_i64, Int.reduceNeg, ↓z_assign, ↓evW_const, ↓constW_int, Int.reduceLE, and_self, ↓z_ops_nil, ↓z_seq_nrm, ↓z_ret, ↓z_end_rt, resLW, res1W, Nat.zero_add, ne_eq, Nat.reduceAdd, ↓z_coeL_cons, ↓z_coeL_nil, ↓z_pack2, D.tup.injEq, List.cons.injEq, and_true, ↓z_coe_int, D.int.injEq, true_and]); (try simp only [Int.toNat_natCast, Nat.mul_one, Bool.or_false, Bool.false_or, Bool.or_self, Bool.or_true])
  exact ⟨by omega, rfl⟩
set_option maxRecDepth 100000 in
set_option maxHeartbeats 4000000 in
theorem fn_refOwes (G : Glob) (acc x y tick : Int) (ps : List Po) : Fn G Tryd.prog 21 [.agg (bkC acc ps), .int .i64 x, .int .i64 y, .int .i64 tick] (.agg [.int .i64 (owN acc ps x y tick), .int .i64 (owE acc ps x y)]) := by
  have hC := fn_refCheck G acc ps
  have hA := fn_In G acc x ps
  have hB := fn_In G acc y ps
  unfold bkC at hC hA hB ⊢
  unfold owN owE
  refine Fn.mk (c := _) Tryd.func21 rfl rfl Tryd.ntmps21 Tryd.results21 ?_
  (simp -dsimp only [bodyW, List.length_cons, List.length_nil, Nat.zero_add, Nat.reduceAdd, Nat.reduceLeDiff, wfL, ↓z_seq, ↓z_region, ↓z_ops_plain, ↓z_box, ↓evW_tmp, ↓z_lk_env, ↓reduceIte, ↓z_cl_agg, ↓z_nmC_cons, ↓z_mn'_int, ↓z_mn'_sl, ↓z_nmC_nil, and_self, ↓z_new, ↓z_nm_nil, Nat.reduceLT, ↓z_pg_env, ↓z_mn_agg, ↓z_mn_int, ↓z_pg_env0, ↓z_put, ↓z_alloc, ↓y_zr37, ↓z_nm_cons, ↓z_pg_cons, ↓z_mn_ptr, reduceCtorEq, ↓z_pg_nil, ↓z_ops_nil, ↓z_seq_nrm, ↓z_load, ↓lkW_cons, Nat.reduceEqDiff, ↓y_ty24, ↓y_sz24, ↓z_agTy_st, ↓loadW_ptr, ↓lkoW_cons, ↓z_rd_t, ↓z_sub_c, ↓z_sub_nil, ↓z_callv, ↓evW_func, ↓z_evL_cons, ↓z_evL_nil, ↓z_fun0, ↓z_coeL_cons, ↓z_coe_oag, ↓z_coeC_cons, ↓z_coeS_int, ↓z_coeS_sl, ↓z_coeC_nil, ↓z_coeL_nil, true_and])
  intro hd _ _ _
  refine call_fn hC fun _ => ?_
  (simp -dsimp only [↓z_put, Nat.reduceLT, ↓z_ops_plain, ↓z_assign, ↓evW_tmp, ↓lkW_cons, ↓reduceIte, ↓z_ops_nil, ↓z_seq_nrm, ↓z_seq, ↓z_region, ↓z_move, ↓z_binOp, ↓evW_const, ↓constW_int, inR_i64, Int.reduceNeg, Int.reduceLE, and_self, ↓z_bn_neq, ↓z_cond, ↓z_cnd, ↓z_gdt, ne_eq, Nat.reduceEqDiff, ↓z_build, ↓y_ty37, ↓z_blTy_st, ↓y_zr37, ↓z_bld_cons, ↓y_fl37x1, ↓y_sz28, ↓z_cl_int, List.length_cons, List.length_nil, Nat.zero_add, Nat.reduceAdd, Nat.reduceLeDiff, ↓spsW_cons, reduceCtorEq, Nat.reduceSub, ↓drW_cons, ↓drW_nil, ↓z_cat_nil_r, ↓z_bld_nil, ↓z_store, ↓y_sz37, ↓z_cl_oag, ↓z_store_ptr, ↓lkoW_cons, ↓z_so_cons, ↓z_put_none, ↓z_ret, ↓z_seq_rt, ↓z_end_rt, resLW, res1W, ↓z_agTy_st, ↓z_coeL_cons, ↓z_coeL_nil, ↓z_pack1, ↓loadW_ptr, ↓z_rd_t, ↓z_sub_c, ↓z_sub_nil, ↓z_coe_oag, ↓z_coeC_cons, ↓z_coeS_int, ↓z_coeC_nil, D.agg.injEq, List.cons.injEq, D.int.injEq, true_and, and_true, ↓z_skip, ↓z_load, ↓y_ty24, ↓y_sz24, ↓z_callv, ↓evW_func, ↓z_evL_cons, ↓z_evL_nil, ↓z_fun0, ↓z_coeS_sl, ↓z_coe_int, z_ite, Classical.not_not])
  refine ⟨fun c0 => ⟨by rfl, by rw [if_neg (fun h => c0 h.1)], by rw [if_neg c0]⟩, fun c0 => ?_⟩
  have hb := chkB_ok c0
  have hlen := hb.len
  refine call_fn hA fun _ => ?_
  (simp -dsimp only [↓z_put, Nat.reduceLT, ↓z_ops_plain, ↓z_assign, ↓evW_tmp, ↓lkW_cons, ↓reduceIte, ↓z_ops_nil, ↓z_seq_nrm, ↓z_seq, ↓z_region, ↓z_load, Nat.reduceEqDiff, ↓y_ty24, ↓y_sz24, ↓z_agTy_st, ↓loadW_ptr, ↓lkoW_cons, Nat.zero_add, reduceCtorEq, ↓z_rd_t, List.length_cons, List.length_nil, Nat.reduceAdd, Nat.reduceLeDiff, ↓z_sub_c, ↓z_sub_nil, ↓z_move, ↓z_callv, ↓evW_func, ↓z_evL_cons, ↓z_evL_nil, ↓z_fun0, ↓z_coeL_cons, ↓z_coe_oag, ↓z_coeC_cons, ↓z_coeS_int, ↓z_coeS_sl, ↓z_coeC_nil, ↓z_coe_int, ↓z_coeL_nil, true_and])
  refine call_fn hB fun _ => ?_
  (simp -dsimp only [↓z_put, Nat.reduceLT, ↓z_ops_plain, ↓z_assign, ↓evW_tmp, ↓lkW_cons, ↓reduceIte, ↓z_ops_nil, ↓z_seq_nrm, ↓z_seq, ↓z_region, ↓z_move, Nat.reduceEqDiff, ↓z_unOp, ↓z_un_not, ↓z_ops_guard, ↓z_grd, ↓z_dst_s, ↓z_dst_0, ↓z_grdD_b, ↓z_gnf, ↓z_gdt, ↓z_gff, ↓z_pick, ↓z_pick_b, ↓z_gft, ↓z_cond, ↓z_cnd, ↓z_gnt, ↓z_gdf, ↓z_skip, ↓evW_const, ↓constW_int, inR_i64, Int.reduceNeg, Int.reduceLE, and_self, ↓z_block, ↓z_loop, true_and, ↓z_build, ↓y_ty37, ↓z_blTy_st, ↓y_zr37, ↓z_bld_cons, ↓y_fl37x1, ↓y_sz28, ↓z_cl_int, List.length_cons, List.length_nil, Nat.zero_add, Nat.reduceAdd, Nat.reduceLeDiff, ↓spsW_cons, reduceCtorEq, Nat.reduceSub, ↓drW_cons, ↓drW_nil, ↓z_cat_nil_r, ↓z_bld_nil, ↓z_store, ↓y_sz37, ↓z_cl_oag, ↓z_store_ptr, ↓lkoW_cons, ↓z_so_cons, ↓z_put_none, ↓z_ret, ↓z_seq_rt, ↓z_end_rt, resLW, res1W, ne_eq, ↓z_agTy_st, ↓z_coeL_cons, ↓z_coeL_nil, ↓z_pack1, ↓loadW_ptr, ↓z_rd_t, ↓z_sub_c, ↓z_sub_nil, ↓z_coe_oag, ↓z_coeC_cons, ↓z_coeS_int, ↓z_coeC_nil, D.agg.injEq, List.cons.injEq, D.int.injEq, and_true, z_ite, ↓constW_bool, ↓z_gtt, Bool.not_false]); (try simp only [Int.toNat_natCast, Nat.mul_one, Bool.or_false, Bool.false_or, Bool.or_self, Bool.or_true])
  refine ⟨fun c1 => ⟨fun c2 => ?_, fun c2 => ⟨by rfl, by rw [if_neg (by omega)], by rw [if_pos c0, if_neg (by omega)]⟩⟩, fun c1 => ⟨by rfl, by rw [if_neg (by omega)], by rw [if_pos c0, if_neg (by omega)]⟩⟩
  rw [if_pos ⟨c0, c1, c2⟩, if_pos c0, if_pos ⟨c1, c2⟩]
  refine hold_intro ⟨[], Nat, fun i => ⟨88, 2, [(13, .int .i64 i), (12, .int .i64 (owZ x y tick (ps.take i))), (8, .ptr 1 0), (4, .ptr 0 0), (1, .int .i64 x), (2, .int .i64 y), (3, .int .i64 tick)], [(1, [.int .i64 0, .int .i64 0]), (0, [.int .i64 acc, .sl 6 ps.length (List.flatMap poC ps)])]⟩, fun i => i ≤ ps.length, fun i => ps.length - i, ?_, ?_⟩
  · (simp -dsimp only [↓z_ad_nil, ↓z_wk, ↓z_wkE_cons, ↓lkW_cons, ↓reduceIte, D.int.injEq, true_and, Nat.reduceEqDiff, Nat.zero_add, reduceCtorEq, Nat.reduceAdd, ↓z_wkE_nil, and_self, and_true, ↓z_wkO_cons, ↓lkoW_cons, ↓z_wkO_nil]); (try simp only [Int.toNat_natCast, Nat.mul_one, Bool.or_false, Bool.false_or, Bool.or_self, Bool.or_true])
    exact ⟨0, by omega, rfl, rfl⟩
  intro i hi
  by_cases h : i < ps.length
  · have hl2 := po_len ps
    have hsub := fun k => po_sub h k
    have hlt : ((i : Int) < (ps.length : Int)) = True := eq_true (by omega)
    have hs := owT_s (x := x) (y := y) (tick := tick) h
    have hs2 := owT_s (x := y) (y := x) (tick := tick) h
    have b1 := ow_le (x := x) (y := y) (tick := tick) (bk_take hb (i + 1))
    have b2 := ow_le (x := y) (y := x) (tick := tick) (bk_take hb (i + 1))
    have b3 := ow_le (x := x) (y := y) (tick := tick) (bk_take hb i)
    have b4 := ow_le (x := y) (y := x) (tick := tick) (bk_take hb i)
    have ok := ok_amt (hb.ok _ (List.getElem_mem h))
    unfold owZ
    (simp -dsimp only [↓z_seq, ↓z_region, ↓z_ops_plain, ↓z_move, ↓evW_tmp, ↓lkW_cons, ↓reduceIte, ↓z_put, Nat.reduceLT, ↓z_fieldAddr, Nat.reduceEqDiff, ↓y_fl24x1, ↓y_sz22, ne_eq, reduceCtorEq, not_false_eq_true, ↓z_fa_ptr, ↓z_load, ↓y_ty22, ↓z_agTy_sl, ↓loadW_ptr, ↓lkoW_cons, ↓z_rd_f, ↓nthW_cons, Nat.zero_add, Nat.reduceSub, ↓z_callb, ↓z_evL_cons, ↓z_evL_nil, ↓z_len, ↓z_ln_sl, ↓z_binOp, ↓z_bn_lss, ↓z_ops_nil, ↓z_seq_nrm, ↓z_cond, ↓z_cnd, ↓z_gdt, hlt, ↓z_skip, ↓z_block, ↓z_indexAddr, ↓z_elTy_sl, ↓y_sz26, ↓z_ix_sl, ↓y_ty26, ↓z_agTy_st, ↓loadW_rop, ↓z_rd_t, hl2, ↓hsub, ↓z_alloc, ↓y_zr26, ↓z_new, ↓z_nm_cons, ↓z_nmC_cons, ↓z_mn'_int, ↓z_nmC_nil, and_self, ↓z_mn'_sl, ↓z_nm_nil, ↓z_pg_cons, ↓z_mn_agg, ↓z_mn_rop, ↓z_mn_int, ↓z_mn_sl, ↓z_mn_ptr, ↓z_mn_bool, ↓z_pg_nil, ↓z_store, ↓z_cl_agg, List.length_cons, List.length_nil, Nat.reduceAdd, ↓z_store_ptr, Nat.reduceLeDiff, ↓spsW_cons, ↓drW_cons, ↓drW_nil, ↓z_cat_nil_r, ↓z_so_cons, ↓z_put_none, ↓y_fl26x3, ↓y_sz3, ↓y_ty3, ↓z_agTy_int, ↓z_bn_leq, ↓z_ops_guard, ↓z_grd, ↓z_dst_s, ↓z_dst_0, ↓z_grdD_b, ↓y_fl26x1, ↓z_gtt, ↓z_bn_eql, ↓z_pick, ↓z_pick_b, ↓y_fl26x0, ↓y_fl26x2, ↓z_bn_add, ↓wrW_i64, inR_i64, Int.reduceNeg, ↓z_assign, ↓z_bn_sub, ↓z_blk_nrm, ↓evW_const, ↓constW_int, Int.reduceLE, ↓z_lp_nrm, ↓z_wk, ↓z_wkE_cons, D.int.injEq, true_and, ↓z_wkE_nil, and_true, ↓z_wkO_cons, ↓z_wkO_nil, z_ite, ↓z_gnt, ↓z_gtf, ↓constW_bool, ↓z_gft]); (try simp only [Int.toNat_natCast])
    refine ⟨by omega, by omega, ?_⟩
    repeat' (first | (refine ⟨by omega, i + 1, by omega, by omega, by omega, by omega⟩) | (intro _) | (apply And.intro) | omega)
  · have hlt : ((i : Int) < (ps.length : Int)) = False := eq_false (by omega)
    (simp -dsimp only [↓z_seq, ↓z_region, ↓z_ops_plain, ↓z_move, ↓evW_tmp, ↓lkW_cons, ↓reduceIte, ↓z_put, Nat.reduceLT, ↓z_fieldAddr, Nat.reduceEqDiff, ↓y_fl24x1, ↓y_sz22, ne_eq, reduceCtorEq, not_false_eq_true, ↓z_fa_ptr, ↓z_load, ↓y_ty22, ↓z_agTy_sl, ↓loadW_ptr, ↓lkoW_cons, ↓z_rd_f, ↓nthW_cons, Nat.zero_add, Nat.reduceSub, ↓z_callb, ↓z_evL_cons, ↓z_evL_nil, ↓z_len, ↓z_ln_sl, ↓z_binOp, ↓z_bn_lss, ↓z_ops_nil, ↓z_seq_nrm, ↓z_cond, ↓z_cnd, ↓z_gdt, hlt, ↓z_exit, ↓z_seq_ext, ↓z_lp_ext, ↓z_blk_ext, ↓z_build, ↓y_ty37, ↓z_blTy_st, ↓y_zr37, ↓z_bld_cons, ↓y_fl37x0, ↓y_sz3, ↓z_cl_int, List.length_cons, List.length_nil, Nat.reduceAdd, Nat.reduceLeDiff, ↓spsW_cons, ↓drW_cons, ↓catW_cons, ↓catW_nil, ↓z_bld_nil, ↓z_store, ↓y_sz37, ↓z_cl_oag, ↓z_store_ptr, ↓drW_nil, ↓z_cat_nil_r, ↓z_so_cons, ↓z_put_none, ↓z_ret, ↓z_end_rt, resLW, res1W, ↓z_agTy_st, ↓z_coeL_cons, ↓z_coeL_nil, ↓z_pack1, ↓z_rd_t, ↓z_sub_c, ↓z_sub_nil, ↓z_coe_oag, ↓z_coeC_cons, ↓z_coeS_int, ↓z_coeC_nil, D.agg.injEq, List.cons.injEq, D.int.injEq, true_and, and_true]); (try simp only [Int.toNat_natCast, Nat.mul_one, Bool.or_false, Bool.false_or, Bool.or_self, Bool.or_true])
    exact ⟨by rfl, by rw [List.take_of_length_le (by omega)]⟩
end Go.Abs

