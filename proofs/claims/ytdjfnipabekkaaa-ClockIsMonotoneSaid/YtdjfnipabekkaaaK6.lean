/-
  CLOCK, sixth walks: the same clock; the reading that follows from an answer.
-/
import Derived.Test.YtdjfnipabekkaaaK5
namespace Go.Abs
open Go.Proofs
set_option maxRecDepth 100000 in
set_option maxHeartbeats 8000000 in
theorem fn_Same (G : Glob) (rate : Int) (rs : List Rd) (hl : rs.length ≤ 1000000) : Fn G Try.prog 20 [.agg (clkA rate rs), .agg (clkA rate rs)] (.bool true) := by
  unfold clkA
  refine Fn.mk (c := _) Try.func20 rfl rfl Try.ntmps20 Try.results20 ?_
  (simp -dsimp only [bodyW, List.length_cons, List.length_nil, Nat.zero_add, Nat.reduceAdd, Nat.reduceLeDiff, wfL, ↓z_seq, ↓z_region, ↓z_ops_plain, ↓z_box, ↓evW_tmp, ↓z_lk_env, ↓reduceIte, ↓z_cl_agg, ↓z_nmC_cons, ↓z_mn'_int, ↓z_mn'_sl, ↓z_nmC_nil, and_self, ↓z_new, ↓z_nm_nil, Nat.reduceLT, ↓z_pg_env, ↓z_mn_agg, ↓z_pg_env0, ↓z_put, ↓lkW_cons, Nat.reduceEqDiff, reduceCtorEq, ↓z_nm_cons, ↓z_pg_cons, ↓z_mn_ptr, ↓z_pg_nil, ↓z_assign, ↓evW_const, ↓constW_bool, ↓z_ops_nil, ↓z_seq_nrm, ↓z_fieldAddr, ↓y_fl24x0, ↓y_sz3, ne_eq, not_false_eq_true, ↓z_fa_ptr, ↓z_load, ↓y_ty3, ↓z_agTy_int, ↓loadW_ptr, ↓lkoW_cons, ↓z_rd_f, ↓nthW_cons, ↓z_binOp, ↓z_bn_neq, ↓z_move, ↓z_ops_guard, ↓z_grd, ↓z_dst_s, ↓z_dst_0, ↓z_grdD_b, ↓z_gdf, not_true_eq_false, ↓y_fl24x1, ↓y_sz22, ↓z_gff, ↓y_ty22, ↓z_agTy_sl, Nat.reduceSub, ↓z_callb, ↓z_evL_cons, ↓z_evL_nil, ↓z_len, ↓z_ln_sl, ↓z_pick, ↓z_pick_b, ↓z_gft, ↓z_cond, ↓z_cnd, ↓z_gdt, ↓z_skip, ↓constW_int, inR_i64, Int.reduceNeg, Int.reduceLE, ↓z_block, ↓z_loop, true_and])
  intro hd _
  refine hold_intro ⟨[], Nat, fun i => ⟨38, 2, [(5, .int .i64 i), (2, .ptr 0 0), (3, .ptr 1 0)], [(1, clkA rate rs), (0, clkA rate rs)]⟩, fun i => i ≤ rs.length, fun i => rs.length - i, ?_, ?_⟩
  · unfold clkA; (simp -dsimp only [↓z_ad_nil, ↓z_wk, ↓z_wkE_cons, ↓lkW_cons, ↓reduceIte, D.int.injEq, true_and, Nat.reduceEqDiff, Nat.zero_add, ↓z_wkE_nil, and_self, and_true, ↓z_wkO_cons, ↓lkoW_cons, reduceCtorEq, ↓z_wkO_nil]); (try simp only [Int.toNat_natCast, Nat.mul_one, Bool.or_false, Bool.false_or, Bool.or_self, Bool.or_true])
    exact ⟨0, by simp⟩
  rintro i hi
  unfold clkA
  by_cases h : i < rs.length
  · have hop := rd_at h
    have hl2 := rd_len rs
    (simp -dsimp only [↓z_seq, ↓z_region, ↓z_ops_plain, ↓z_move, ↓evW_tmp, ↓lkW_cons, ↓reduceIte, ↓z_put, Nat.reduceLT, ↓z_fieldAddr, Nat.reduceEqDiff, ↓y_fl24x1, ↓y_sz22, ne_eq, reduceCtorEq, not_false_eq_true, ↓z_fa_ptr, ↓z_load, ↓y_ty22, ↓z_agTy_sl, ↓loadW_ptr, ↓lkoW_cons, ↓z_rd_f, ↓nthW_cons, Nat.zero_add, Nat.reduceSub, ↓z_callb, ↓z_evL_cons, ↓z_evL_nil, ↓z_len, ↓z_ln_sl, ↓z_binOp, ↓z_bn_lss, ↓z_ops_nil, ↓z_seq_nrm, ↓z_cond, ↓z_cnd, ↓z_gdt, ↓z_skip, ↓z_block, ↓z_region_d, ↓y_mix, true_and, ↓z_exit, ↓z_seq_ext, ↓z_lp_ext, ↓z_blk_ext, ↓z_assign, ↓evW_const, ↓constW_bool, ↓z_ret, ↓z_end_rt, resLW, res1W, ↓z_coeL_cons, ↓z_coeL_nil, ↓z_pack1, ↓z_coe_bool, and_self, z_ite])
    refine ⟨fun _ => rgn_q (by decide +kernel) rfl ?_, fun h => by omega⟩
    (simp -dsimp only [↓z_ops_plain, ↓z_fieldAddr, ↓evW_tmp, ↓lkW_cons, Nat.reduceEqDiff, ↓reduceIte, ↓y_fl24x1, ↓y_sz22, ne_eq, reduceCtorEq, not_false_eq_true, ↓z_fa_ptr, ↓z_put, Nat.reduceLT, ↓z_load, ↓y_ty22, ↓z_agTy_sl, ↓loadW_ptr, ↓lkoW_cons, ↓z_rd_f, ↓nthW_cons, Nat.zero_add, Nat.reduceSub, ↓z_move, ↓z_indexAddr, ↓z_elTy_sl, ↓y_sz29, ↓z_ix_sl, ↓y_ty29, ↓z_agTy_st, ↓loadW_rop, ↓z_rd_t, hl2, ↓z_binOp, ↓z_bn_aneq, ↓y_fk29, ↓z_ops_nil, ↓z_seq_nrm, ↓z_cond, ↓z_cnd, ↓z_gnt, ↓z_geqf, ↓z_seq, ↓z_region, ↓z_assign, ↓evW_const, ↓constW_bool, ↓z_ret, ↓z_blk_rt, ↓z_seq_rt, ↓z_lp_rt, ↓z_end_rt, resLW, res1W, ↓z_coeL_cons, ↓z_coeL_nil, ↓z_pack1, ↓z_coe_bool, D.bool.injEq, true_and, ↓z_skip, ↓z_blk_nrm, ↓constW_int, inR_i64, Int.reduceNeg, Int.reduceLE, and_self, ↓z_bn_add, ↓wrW_i64, ↓z_lp_nrm, ↓z_wk, ↓z_wkE_cons, D.int.injEq, ↓z_wkE_nil, and_true, ↓z_wkO_cons, ↓z_wkO_nil, z_sub, not_true_eq_false]); (try simp only [Int.toNat_natCast])
    have hk : kdM (List.take 3 (List.drop (i * 3) (List.flatMap rdC rs))) (List.replicate 3 (K.int .i64)) := by rw [hop]; rfl
    exact ⟨by omega, by omega, by omega, by omega, by omega, by omega, hk, hk, fun h => h, fun _ => ⟨⟨by omega, by omega⟩, i + 1, by omega, by omega, by omega⟩⟩
  · (simp -dsimp only [↓z_seq, ↓z_region, ↓z_ops_plain, ↓z_move, ↓evW_tmp, ↓lkW_cons, ↓reduceIte, ↓z_put, Nat.reduceLT, ↓z_fieldAddr, Nat.reduceEqDiff, ↓y_fl24x1, ↓y_sz22, ne_eq, reduceCtorEq, not_false_eq_true, ↓z_fa_ptr, ↓z_load, ↓y_ty22, ↓z_agTy_sl, ↓loadW_ptr, ↓lkoW_cons, ↓z_rd_f, ↓nthW_cons, Nat.zero_add, Nat.reduceSub, ↓z_callb, ↓z_evL_cons, ↓z_evL_nil, ↓z_len, ↓z_ln_sl, ↓z_binOp, ↓z_bn_lss, ↓z_ops_nil, ↓z_seq_nrm, ↓z_cond, ↓z_cnd, ↓z_gdt, ↓z_skip, ↓z_block, ↓z_region_d, ↓y_mix, true_and, ↓z_exit, ↓z_seq_ext, ↓z_lp_ext, ↓z_blk_ext, ↓z_assign, ↓evW_const, ↓constW_bool, ↓z_ret, ↓z_end_rt, resLW, res1W, ↓z_coeL_cons, ↓z_coeL_nil, ↓z_pack1, ↓z_coe_bool, and_self, z_ite])
    exact ⟨fun h => by omega, fun _ => trivial⟩
def ansE (rate : Int) (rs : List Rd) (sent got lo hi : Int) : Int := if chkC rate rs ≠ 0 then chkC rate rs else if ¬ (instP sent ∧ instP got) ∨ got < sent ∨ ¬ valP lo hi then 3 else 0
def ansR (rate : Int) (rs : List Rd) (sent got lo hi : Int) : Rd := if ansE rate rs sent got lo hi = 0 then (got, lo, min 3600000000 (hi + pHi rate (got - sent))) else (0, 0, 0)
theorem ans_c {rate : Int} {rs : List Rd} {sent got lo hi : Int} (h : chkC rate rs ≠ 0) : ansE rate rs sent got lo hi = chkC rate rs ∧ ansR rate rs sent got lo hi = (0, 0, 0) := by
  have e : ansE rate rs sent got lo hi = chkC rate rs := by unfold ansE; rw [if_pos h]
  refine ⟨e, ?_⟩
  unfold ansR; rw [e, if_neg h]
theorem ans_3 {rate : Int} {rs : List Rd} {sent got lo hi : Int} (h : chkC rate rs = 0) (h2 : ¬ (instP sent ∧ instP got) ∨ got < sent ∨ ¬ valP lo hi) : ansE rate rs sent got lo hi = 3 ∧ ansR rate rs sent got lo hi = (0, 0, 0) := by
  have e : ansE rate rs sent got lo hi = 3 := by unfold ansE; rw [if_neg (by omega), if_pos h2]
  refine ⟨e, ?_⟩
  unfold ansR; rw [e, if_neg (by decide)]
theorem ans_0 {rate : Int} {rs : List Rd} {sent got lo hi : Int} (h : chkC rate rs = 0) (h2 : ¬ (¬ (instP sent ∧ instP got) ∨ got < sent ∨ ¬ valP lo hi)) : ansE rate rs sent got lo hi = 0 ∧ ansR rate rs sent got lo hi = (got, lo, min 3600000000 (hi + pHi rate (got - sent))) := by
  have e : ansE rate rs sent got lo hi = 0 := by unfold ansE; rw [if_neg (by omega), if_neg h2]
  refine ⟨e, ?_⟩
  unfold ansR; rw [e, if_pos rfl]
set_option maxRecDepth 100000 in
set_option maxHeartbeats 8000000 in
theorem fn_Answer (G : Glob) (rate : Int) (rs : List Rd) (sent got lo hi : Int) : Fn G Try.prog 21 [.agg (clkA rate rs), .int .i64 sent, .int .i64 got, .agg [.int .i64 lo, .int .i64 hi]] (.tup [.agg (rdC (ansR rate rs sent got lo hi)), .int .i64 (ansE rate rs sent got lo hi)]) := by
  unfold clkA
  refine Fn.mk (c := _) Try.func21 rfl rfl Try.ntmps21 Try.results21 ?_
  (simp -dsimp only [bodyW, List.length_cons, List.length_nil, Nat.zero_add, Nat.reduceAdd, Nat.reduceLeDiff, wfL, ↓z_seq, ↓z_region, ↓z_ops_plain, ↓z_box, ↓evW_tmp, ↓z_lk_env, ↓reduceIte, ↓z_cl_agg, ↓z_nmC_cons, ↓z_mn'_int, ↓z_mn'_sl, ↓z_nmC_nil, and_self, ↓z_new, ↓z_nm_nil, Nat.reduceLT, ↓z_pg_env, ↓z_mn_agg, ↓z_mn_int, ↓z_pg_env0, ↓z_put, ↓lkW_cons, Nat.reduceEqDiff, reduceCtorEq, ↓z_nm_cons, ↓z_pg_cons, ↓z_mn_ptr, ↓z_pg_nil, ↓z_alloc, ↓y_zr29, ↓z_assign, ↓evW_const, ↓constW_int, inR_i64, Int.reduceNeg, Int.reduceLE, ↓z_ops_nil, ↓z_seq_nrm, ↓z_load, ↓y_ty24, ↓y_sz24, ↓z_agTy_st, ↓loadW_ptr, ↓lkoW_cons, ↓z_rd_t, ↓z_sub_c, ↓z_sub_nil, ↓z_callv, ↓evW_func, ↓z_evL_cons, ↓z_evL_nil, ↓z_fun0, ↓z_coeL_cons, ↓z_coe_oag, ↓z_coeC_cons, ↓z_coeS_int, ↓z_coeS_sl, ↓z_coeC_nil, ↓z_coeL_nil, true_and])
  intro hd _ _ _
  refine call_fn (fn_Check G rate rs) fun _ => ?_
  (simp -dsimp only [↓z_put, Nat.reduceLT, ↓z_ops_plain, ↓z_assign, ↓evW_tmp, ↓lkW_cons, ↓reduceIte, ↓z_ops_nil, ↓z_seq_nrm, ↓z_seq, ↓z_region, ↓z_move, ↓z_binOp, ↓evW_const, ↓constW_int, inR_i64, Int.reduceNeg, Int.reduceLE, and_self, ↓z_bn_neq, ↓z_cond, ↓z_cnd, ↓z_gdt, ne_eq, ↓z_build, ↓y_ty29, ↓z_blTy_st, ↓y_zr29, ↓z_bld_nil, Nat.reduceEqDiff, ↓z_store, ↓y_sz29, ↓z_cl_oag, List.length_cons, List.length_nil, Nat.zero_add, Nat.reduceAdd, ↓z_store_ptr, ↓lkoW_cons, Nat.reduceLeDiff, ↓spsW_cons, ↓drW_cons, reduceCtorEq, Nat.reduceSub, ↓drW_nil, ↓z_cat_nil_r, ↓z_so_cons, ↓z_put_none, ↓z_ret, ↓z_seq_rt, ↓z_end_rt, resLW, res1W, ↓z_agTy_st, ↓z_coeL_cons, ↓z_coeL_nil, ↓z_pack2, D.tup.injEq, List.cons.injEq, and_true, ↓z_coe_int, D.int.injEq, true_and, ↓loadW_ptr, ↓z_rd_t, ↓z_sub_c, ↓z_sub_nil, ↓z_coe_oag, ↓z_coeC_cons, ↓z_coeS_int, ↓z_coeC_nil, D.agg.injEq, ↓z_skip, ↓z_buildSlice, ↓y_ty99, ↓z_slTy, ↓y_sz3, Nat.mul_one, maxLen_lit, ↓y_zr3, ↓z_repL_s, ↓z_repL_0, ↓catW_cons, ↓catW_nil, ↓z_bld_cons, ↓z_cl_int, ↓z_allP_cons, ↓z_isP_int, ↓z_allP_nil, ↓z_callv, ↓evW_func, ↓z_evL_cons, ↓z_evL_nil, ↓z_fun0, ↓z_coe_slx, z_ite, Classical.not_not])
  refine ⟨fun hc => ?_, fun hc => ?_⟩
  · obtain ⟨e1, e2⟩ := ans_c (sent := sent) (got := got) (lo := lo) (hi := hi) hc
    rw [e1, e2]
    exact ⟨rfl, rfl, rfl⟩
  obtain ⟨c1, c2, c3, c4, c5⟩ := chkC_ok hc
  refine call_fn (fn_instants2 G sent got) fun _ => ?_
  (simp -dsimp only [↓z_put, Nat.reduceLT, ↓z_ops_plain, ↓z_unOp, ↓evW_tmp, ↓lkW_cons, ↓reduceIte, ↓z_un_not, ↓z_move, ↓z_ops_guard, ↓z_grd, ↓z_dst_s, ↓z_dst_0, ↓z_grdD_b, ↓z_gnf, ↓z_gdt, Nat.reduceEqDiff, reduceCtorEq, Nat.zero_add, ↓z_gff, Nat.reduceAdd, ↓z_binOp, ↓z_bn_gtr, ↓z_pick, ↓z_pick_b, ↓z_gft, ↓z_gdf, ↓z_gnt, ↓evW_const, ↓constW_bool, ↓z_ops_nil, ↓z_seq_nrm, ↓z_cond, ↓z_cnd, ↓z_gtt, ↓z_seq, ↓z_region, ↓z_build, ↓y_ty29, ↓z_blTy_st, ↓y_zr29, ↓z_bld_nil, ↓z_store, ↓y_sz29, ↓z_cl_oag, List.length_cons, List.length_nil, ↓z_store_ptr, ↓lkoW_cons, Nat.reduceLeDiff, ↓spsW_cons, ↓drW_cons, Nat.reduceSub, ↓drW_nil, ↓z_cat_nil_r, ↓z_so_cons, ↓z_put_none, ↓z_assign, ↓constW_int, inR_i64, Int.reduceNeg, Int.reduceLE, and_self, ↓z_ret, ↓z_seq_rt, ↓z_end_rt, resLW, res1W, Bool.not_false, ne_eq, ↓z_agTy_st, ↓z_coeL_cons, ↓z_coeL_nil, ↓z_pack2, D.tup.injEq, List.cons.injEq, and_true, ↓z_coe_int, D.int.injEq, true_and, ↓loadW_ptr, ↓z_rd_t, ↓z_sub_c, ↓z_sub_nil, ↓z_coe_oag, ↓z_coeC_cons, ↓z_coeS_int, ↓z_coeC_nil, D.agg.injEq, ↓z_load, ↓y_ty27, ↓y_sz27, ↓z_callv, ↓evW_func, ↓z_evL_cons, ↓z_evL_nil, ↓z_fun0, z_ite, ↓z_gtf])
  have bad : ¬ (instP sent ∧ instP got) ∨ got < sent ∨ ¬ valP lo hi → [D.int .i64 0, .int .i64 0, .int .i64 0] = rdC (ansR rate rs sent got lo hi) ∧ 3 = ansE rate rs sent got lo hi := fun h => by
    obtain ⟨e1, e2⟩ := ans_3 (sent := sent) (got := got) (lo := lo) (hi := hi) hc h
    rw [e1, e2]; exact ⟨rfl, rfl⟩
  refine ⟨fun i1 => ⟨fun g => ⟨rfl, bad (.inr (.inl g))⟩, fun g => call_fn (fn_valid G lo hi) fun _ => ?_⟩, fun i1 => ⟨rfl, bad (.inl i1)⟩⟩
  (simp -dsimp only [↓z_put, Nat.reduceLT, ↓z_ops_guard, ↓z_grd, ↓z_dst_s, ↓z_dst_0, ↓lkW_cons, Nat.reduceEqDiff, ↓reduceIte, ↓z_grdD_b, ↓z_gff, ↓z_unOp, ↓evW_tmp, ↓z_un_not, ↓z_ops_plain, ↓z_pick, ↓z_pick_b, ↓z_gft, ↓z_ops_nil, ↓z_seq_nrm, ↓z_cond, ↓z_cnd, ↓z_gnt, ↓z_gdf, ↓z_skip, ↓z_seq, ↓z_region, ↓z_fieldAddr, ↓y_fl24x0, ↓y_sz3, ne_eq, reduceCtorEq, not_false_eq_true, ↓z_fa_ptr, ↓z_load, ↓y_ty3, ↓z_agTy_int, ↓loadW_ptr, ↓lkoW_cons, Nat.zero_add, Nat.reduceAdd, ↓z_rd_f, ↓nthW_cons, ↓z_move, ↓z_binOp, ↓z_bn_sub, ↓wrW_i64, inR_i64, Int.reduceNeg, ↓z_callv, ↓evW_func, ↓z_evL_cons, ↓z_evL_nil, ↓z_fun0, ↓z_coeL_cons, ↓z_coe_int, ↓z_coeL_nil, true_and, ↓z_build, ↓y_ty29, ↓z_blTy_st, ↓y_zr29, ↓z_bld_nil, ↓z_store, ↓y_sz29, ↓z_cl_oag, List.length_cons, List.length_nil, ↓z_store_ptr, Nat.reduceLeDiff, ↓spsW_cons, ↓drW_cons, Nat.reduceSub, ↓drW_nil, ↓z_cat_nil_r, ↓z_so_cons, ↓z_put_none, ↓z_assign, ↓evW_const, ↓constW_int, Int.reduceLE, and_self, ↓z_ret, ↓z_seq_rt, ↓z_end_rt, resLW, res1W, ↓z_agTy_st, ↓z_pack2, D.tup.injEq, List.cons.injEq, and_true, D.int.injEq, ↓z_rd_t, ↓z_sub_c, ↓z_sub_nil, ↓z_coe_oag, ↓z_coeC_cons, ↓z_coeS_int, ↓z_coeC_nil, D.agg.injEq, z_ite]); (try simp only [Int.toNat_natCast, Nat.mul_one, Bool.or_false, Bool.false_or, Bool.or_self, Bool.or_true])
  have hd0 : instP (got - sent) := by omega
  have rl := pLo_rng (r := rate) (s := got - sent) c1 hd0.1
  have rh := pHi_rng (r := rate) (s := got - sent) c1 c2 hd0.1
  refine ⟨fun v => ⟨by omega, call_fn (fn_passed G rate _ c1 c2 hd0.1 hd0.2) fun _ => ?_⟩, fun v => ⟨rfl, bad (.inr (.inr v))⟩⟩
  obtain ⟨e1, e2⟩ := ans_0 (sent := sent) (got := got) (lo := lo) (hi := hi) hc (by omega)
  rw [e1, e2]
  (simp -dsimp only [↓z_put, Nat.reduceLT, ↓z_ops_plain, ↓z_move, ↓evW_tmp, ↓lkW_cons, ↓reduceIte, ↓z_extract, ↓z_ex, ↓nthW_cons, Nat.reduceEqDiff, reduceCtorEq, Nat.reduceSub, ↓z_assign, ↓z_ops_nil, ↓z_seq_nrm, ↓z_seq, ↓z_region, Nat.zero_add, Nat.reduceAdd, ↓z_fieldAddr, ↓y_fl27x0, ↓y_sz3, ne_eq, not_false_eq_true, ↓z_fa_ptr, ↓z_load, ↓y_ty3, ↓z_agTy_int, ↓loadW_ptr, ↓lkoW_cons, ↓z_rd_f, ↓y_fl27x1, ↓z_binOp, ↓z_bn_add, ↓wrW_i64, inR_i64, Int.reduceNeg, ↓z_callb, ↓z_evL_cons, ↓evW_const, ↓constW_int, Int.reduceLE, and_self, ↓z_evL_nil, ↓z_min, ↓z_mx_min, ↓z_mx_nil, ↓z_build, ↓y_ty27, ↓z_blTy_st, ↓y_zr27, ↓z_bld_cons, ↓z_cl_int, List.length_cons, List.length_nil, Nat.reduceLeDiff, ↓spsW_cons, ↓drW_cons, ↓catW_cons, ↓catW_nil, ↓drW_nil, ↓z_cat_nil_r, ↓z_bld_nil, ↓y_ty29, ↓y_zr29, ↓y_fl29x0, ↓y_fl29x1, ↓y_sz27, ↓z_cl_oag, ↓z_store, ↓y_sz29, ↓z_store_ptr, ↓z_so_cons, ↓z_put_none, ↓z_ret, ↓z_end_rt, resLW, res1W, ↓z_agTy_st, ↓z_coeL_cons, ↓z_coeL_nil, ↓z_pack2, D.tup.injEq, List.cons.injEq, and_true, ↓z_coe_int, ↓z_rd_t, ↓z_sub_c, ↓z_sub_nil, ↓z_coe_oag, ↓z_coeC_cons, ↓z_coeS_int, ↓z_coeC_nil, D.agg.injEq, true_and]); (try simp only [Int.toNat_natCast, Nat.mul_one, Bool.or_false, Bool.false_or, Bool.or_self, Bool.or_true])
  exact ⟨by omega, rfl, rfl, rfl⟩
set_option maxRecDepth 100000 in
set_option maxHeartbeats 8000000 in
theorem fn_refAnswer (G : Glob) (rate : Int) (rs : List Rd) (sent got lo hi : Int) : Fn G Try.prog 22 [.agg (clkA rate rs), .int .i64 sent, .int .i64 got, .agg [.int .i64 lo, .int .i64 hi]] (.agg (rdC (ansR rate rs sent got lo hi) ++ [.int .i64 (ansE rate rs sent got lo hi)])) := by
  unfold clkA
  refine Fn.mk (c := _) Try.func22 rfl rfl Try.ntmps22 Try.results22 ?_
  (simp -dsimp only [bodyW, List.length_cons, List.length_nil, Nat.zero_add, Nat.reduceAdd, Nat.reduceLeDiff, wfL, ↓z_seq, ↓z_region, ↓z_ops_plain, ↓z_box, ↓evW_tmp, ↓z_lk_env, ↓reduceIte, ↓z_cl_agg, ↓z_nmC_cons, ↓z_mn'_int, ↓z_mn'_sl, ↓z_nmC_nil, and_self, ↓z_new, ↓z_nm_nil, Nat.reduceLT, ↓z_pg_env, ↓z_mn_agg, ↓z_mn_int, ↓z_pg_env0, ↓z_put, ↓lkW_cons, Nat.reduceEqDiff, reduceCtorEq, ↓z_nm_cons, ↓z_pg_cons, ↓z_mn_ptr, ↓z_pg_nil, ↓z_alloc, ↓y_zr55, ↓z_ops_nil, ↓z_seq_nrm, ↓z_load, ↓y_ty24, ↓y_sz24, ↓z_agTy_st, ↓loadW_ptr, ↓lkoW_cons, ↓z_rd_t, ↓z_sub_c, ↓z_sub_nil, ↓z_callv, ↓evW_func, ↓z_evL_cons, ↓z_evL_nil, ↓z_fun0, ↓z_coeL_cons, ↓z_coe_oag, ↓z_coeC_cons, ↓z_coeS_int, ↓z_coeS_sl, ↓z_coeC_nil, ↓z_coeL_nil, true_and])
  intro hd _ _ _
  refine call_fn (fn_refCheck G rate rs) fun _ => ?_
  (simp -dsimp only [↓z_put, Nat.reduceLT, ↓z_ops_plain, ↓z_assign, ↓evW_tmp, ↓lkW_cons, ↓reduceIte, ↓z_ops_nil, ↓z_seq_nrm, ↓z_seq, ↓z_region, ↓z_move, ↓z_binOp, ↓evW_const, ↓constW_int, inR_i64, Int.reduceNeg, Int.reduceLE, and_self, ↓z_bn_neq, ↓z_cond, ↓z_cnd, ↓z_gdt, ne_eq, Nat.reduceEqDiff, ↓z_build, ↓y_ty55, ↓z_blTy_st, ↓y_zr55, ↓z_bld_cons, ↓y_fl55x1, ↓y_sz32, ↓z_cl_int, List.length_cons, List.length_nil, Nat.zero_add, Nat.reduceAdd, Nat.reduceLeDiff, ↓spsW_cons, reduceCtorEq, Nat.reduceSub, ↓drW_cons, ↓drW_nil, ↓z_cat_nil_r, ↓z_bld_nil, ↓z_store, ↓y_sz55, ↓z_cl_oag, ↓z_store_ptr, ↓lkoW_cons, ↓z_so_cons, ↓z_put_none, ↓z_ret, ↓z_seq_rt, ↓z_end_rt, resLW, res1W, ↓z_agTy_st, ↓z_coeL_cons, ↓z_coeL_nil, ↓z_pack1, ↓loadW_ptr, ↓z_rd_t, ↓z_sub_c, ↓z_sub_nil, ↓z_coe_oag, ↓z_coeC_cons, ↓z_coeS_int, ↓z_coeC_nil, D.agg.injEq, true_and, ↓z_skip, ↓z_load, ↓y_ty27, ↓y_sz27, ↓z_callv, ↓evW_func, ↓z_evL_cons, ↓z_evL_nil, ↓z_fun0, z_ite, Classical.not_not])
  refine ⟨fun hc => ?_, fun hc => ?_⟩
  · obtain ⟨e1, e2⟩ := ans_c (sent := sent) (got := got) (lo := lo) (hi := hi) hc
    rw [e1, e2]
    exact ⟨rfl, rfl⟩
  obtain ⟨c1, c2, c3, c4, c5⟩ := chkC_ok hc
  refine call_fn (fn_Valid G lo hi) fun _ => ?_
  (simp -dsimp only [↓z_put, Nat.reduceLT, ↓z_ops_plain, ↓z_assign, ↓evW_tmp, ↓lkW_cons, ↓reduceIte, ↓z_ops_nil, ↓z_seq_nrm, ↓z_seq, ↓z_region, ↓z_move, ↓z_unOp, ↓z_un_not, ↓z_ops_guard, ↓z_grd, ↓z_dst_s, ↓z_dst_0, ↓z_grdD_b, ↓z_gnf, ↓z_gdt, Nat.reduceEqDiff, reduceCtorEq, Nat.zero_add, ↓z_gff, ↓z_binOp, ↓evW_const, ↓constW_int, inR_i64, Int.reduceNeg, Int.reduceLE, and_self, ↓z_bn_lss, ↓z_pick, ↓z_pick_b, ↓z_gft, ↓z_gdf, ↓z_gnt, ↓constW_bool, ↓z_gtf, ↓z_cond, ↓z_cnd, ↓z_gtt, ↓z_build, ↓y_ty55, ↓z_blTy_st, ↓y_zr55, ↓z_bld_cons, ↓y_fl55x1, ↓y_sz32, ↓z_cl_int, List.length_cons, List.length_nil, Nat.reduceAdd, Nat.reduceLeDiff, ↓spsW_cons, Nat.reduceSub, ↓drW_cons, ↓drW_nil, ↓z_cat_nil_r, ↓z_bld_nil, ↓z_store, ↓y_sz55, ↓z_cl_oag, ↓z_store_ptr, ↓lkoW_cons, ↓z_so_cons, ↓z_put_none, ↓z_ret, ↓z_seq_rt, ↓z_end_rt, resLW, res1W, Bool.not_false, ne_eq, ↓z_agTy_st, ↓z_coeL_cons, ↓z_coeL_nil, ↓z_pack1, ↓loadW_ptr, ↓z_rd_t, ↓z_sub_c, ↓z_sub_nil, ↓z_coe_oag, ↓z_coeC_cons, ↓z_coeS_int, ↓z_coeC_nil, D.agg.injEq, true_and, ↓z_bn_gtr, ↓z_skip, ↓z_fieldAddr, ↓y_fl24x0, ↓y_sz3, not_false_eq_true, ↓z_fa_ptr, ↓z_load, ↓y_ty3, ↓z_agTy_int, ↓z_rd_f, ↓nthW_cons, ↓z_bn_sub, ↓wrW_i64, ↓z_callv, ↓evW_func, ↓z_evL_cons, ↓z_evL_nil, ↓z_fun0, ↓z_coe_int, z_ite])
  have bad : ¬ (instP sent ∧ instP got) ∨ got < sent ∨ ¬ valP lo hi → [D.int .i64 0, .int .i64 0, .int .i64 0, .int .i64 3] = rdC (ansR rate rs sent got lo hi) ++ [.int .i64 (ansE rate rs sent got lo hi)] := fun h => by
    obtain ⟨e1, e2⟩ := ans_3 (sent := sent) (got := got) (lo := lo) (hi := hi) hc h
    rw [e1, e2]; rfl
  refine ⟨fun v => ⟨fun g => ⟨rfl, bad (.inl (by omega))⟩, fun g => ⟨fun g2 => ⟨rfl, bad (.inr (.inl g2))⟩, fun g2 => ⟨fun g3 => ⟨rfl, bad (.inl (by omega))⟩, fun g3 => ⟨by omega, ?_⟩⟩⟩⟩, fun v => ⟨rfl, bad (.inr (.inr v))⟩⟩
  have hd0 : instP (got - sent) := by omega
  have rl := pLo_rng (r := rate) (s := got - sent) c1 hd0.1
  have rh := pHi_rng (r := rate) (s := got - sent) c1 c2 hd0.1
  refine call_fn ((fn_refPassed G rate (got - sent)).out (by rw [pasL_ok c1 c2 hd0, pasH_ok c1 c2 hd0, pasE_ok c1 c2 hd0])) fun _ => ?_
  obtain ⟨e1, e2⟩ := ans_0 (sent := sent) (got := got) (lo := lo) (hi := hi) hc (by omega)
  rw [e1, e2]
  (simp -dsimp only [↓z_put, Nat.reduceLT, ↓z_ops_plain, ↓z_alloc, ↓y_zr36, ↓z_new, ↓z_nm_cons, ↓z_nmC_cons, ↓z_mn'_int, ↓z_nmC_nil, and_self, ↓z_mn'_sl, ↓z_nm_nil, Nat.zero_add, Nat.reduceAdd, ↓z_pg_cons, ↓z_mn_agg, ↓z_mn_int, ↓z_mn_ptr, reduceCtorEq, ↓reduceIte, ↓z_mn_bool, ↓z_mn_oag, ↓z_mnL_int, ↓z_mnL_nil, ↓z_mnL_sl, Nat.reduceEqDiff, ↓z_pg_nil, ↓z_store, ↓evW_tmp, ↓lkW_cons, ↓y_sz36, ↓z_cl_agg, List.length_cons, List.length_nil, ↓z_store_ptr, ↓lkoW_cons, Nat.reduceLeDiff, ↓spsW_cons, ↓drW_cons, Nat.reduceSub, ↓drW_nil, ↓z_cat_nil_r, ↓z_so_cons, ↓z_put_none, ↓z_ops_nil, ↓z_seq_nrm, ↓z_seq, ↓z_region, ↓z_move, ↓z_fieldAddr, ↓y_fl27x0, ↓y_sz3, ne_eq, not_false_eq_true, ↓z_fa_ptr, ↓z_load, ↓y_ty3, ↓z_agTy_int, ↓loadW_ptr, ↓z_rd_f, ↓nthW_cons, ↓y_fl27x1, ↓y_fl36x1, ↓z_binOp, ↓z_bn_add, ↓wrW_i64, inR_i64, Int.reduceNeg, ↓z_callb, ↓z_evL_cons, ↓evW_const, ↓constW_int, Int.reduceLE, ↓z_evL_nil, ↓z_min, ↓z_mx_min, ↓z_mx_nil, ↓z_build, ↓y_ty27, ↓z_blTy_st, ↓y_zr27, ↓z_bld_cons, ↓z_cl_int, ↓catW_cons, ↓catW_nil, ↓z_bld_nil, ↓y_ty29, ↓y_zr29, ↓y_fl29x0, ↓y_fl29x1, ↓y_sz27, ↓z_cl_oag, ↓y_ty55, ↓y_zr55, ↓y_fl55x0, ↓y_sz29, ↓y_sz55, ↓z_ret, ↓z_end_rt, resLW, res1W, ↓z_agTy_st, ↓z_coeL_cons, ↓z_coeL_nil, ↓z_pack1, ↓z_rd_t, ↓z_sub_c, ↓z_sub_nil, ↓z_coe_oag, ↓z_coeC_cons, ↓z_coeS_int, ↓z_coeC_nil, D.agg.injEq, true_and]); (try simp only [Int.toNat_natCast, Nat.mul_one, Bool.or_false, Bool.false_or, Bool.or_self, Bool.or_true])
  exact ⟨by omega, rfl, rfl, rfl, rfl⟩
end Go.Abs

