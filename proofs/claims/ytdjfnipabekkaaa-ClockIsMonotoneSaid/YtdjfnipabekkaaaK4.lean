/-
  CLOCK, fourth walks: the range of a value; ranges together.
-/
import Derived.Test.YtdjfnipabekkaaaK3
namespace Go.Abs
open Go.Proofs
def nowE (rate x : Int) (rs : List Rd) : Int := if chkC rate rs ≠ 0 then chkC rate rs else if ¬ instP x then 3 else if hiB rate x rs < loB rate x rs then 24 else 0
def nowL (rate x : Int) (rs : List Rd) : Int := if nowE rate x rs = 0 then loB rate x rs else 0
def nowH (rate x : Int) (rs : List Rd) : Int := if nowE rate x rs = 0 then hiB rate x rs else 0
theorem nowE_c {rate x : Int} {rs : List Rd} (h : chkC rate rs ≠ 0) : nowE rate x rs = chkC rate rs := by unfold nowE; rw [if_pos h]
theorem nowE_x {rate x : Int} {rs : List Rd} (h : chkC rate rs = 0) (h2 : ¬ instP x) : nowE rate x rs = 3 := by unfold nowE; rw [if_neg (by omega), if_pos h2]
theorem nowE_n {rate x : Int} {rs : List Rd} (h : chkC rate rs = 0) (h2 : instP x) (h3 : hiB rate x rs < loB rate x rs) : nowE rate x rs = 24 := by unfold nowE; rw [if_neg (by omega), if_neg (by omega), if_pos h3]
theorem nowE_0 {rate x : Int} {rs : List Rd} (h : chkC rate rs = 0) (h2 : instP x) (h3 : ¬ hiB rate x rs < loB rate x rs) : nowE rate x rs = 0 := by unfold nowE; rw [if_neg (by omega), if_neg (by omega), if_neg h3]
theorem now_no {rate x : Int} {rs : List Rd} (h : nowE rate x rs ≠ 0) : nowL rate x rs = 0 ∧ nowH rate x rs = 0 := by unfold nowL nowH; rw [if_neg h, if_neg h]; exact ⟨rfl, rfl⟩
theorem now_yes {rate x : Int} {rs : List Rd} (h : nowE rate x rs = 0) : nowL rate x rs = loB rate x rs ∧ nowH rate x rs = hiB rate x rs := by unfold nowL nowH; rw [if_pos h, if_pos h]; exact ⟨rfl, rfl⟩
set_option maxRecDepth 100000 in
set_option maxHeartbeats 8000000 in
theorem fn_Now (G : Glob) (rate x : Int) (rs : List Rd) : Fn G Try.prog 14 [.agg (clkA rate rs), .int .i64 x] (.tup [.agg [.int .i64 (nowL rate x rs), .int .i64 (nowH rate x rs)], .int .i64 (nowE rate x rs)]) := by
  unfold clkA
  refine Fn.mk (c := _) Try.func14 rfl rfl Try.ntmps14 Try.results14 ?_
  (simp -dsimp only [bodyW, List.length_cons, List.length_nil, Nat.zero_add, Nat.reduceAdd, Nat.reduceLeDiff, wfL, ↓z_seq, ↓z_region, ↓z_ops_plain, ↓z_box, ↓evW_tmp, ↓z_lk_env, ↓reduceIte, ↓z_cl_agg, ↓z_nmC_cons, ↓z_mn'_int, ↓z_mn'_sl, ↓z_nmC_nil, and_self, ↓z_new, ↓z_nm_nil, Nat.reduceLT, ↓z_pg_env, ↓z_mn_agg, ↓z_mn_int, ↓z_pg_env0, ↓z_put, ↓z_alloc, ↓y_zr27, ↓z_nm_cons, ↓z_pg_cons, ↓z_mn_ptr, reduceCtorEq, ↓z_pg_nil, ↓z_assign, ↓evW_const, ↓constW_int, inR_i64, Int.reduceNeg, Int.reduceLE, ↓z_ops_nil, ↓z_seq_nrm, ↓z_load, ↓lkW_cons, Nat.reduceEqDiff, ↓y_ty24, ↓y_sz24, ↓z_agTy_st, ↓loadW_ptr, ↓lkoW_cons, ↓z_rd_t, ↓z_sub_c, ↓z_sub_nil, ↓z_callv, ↓evW_func, ↓z_evL_cons, ↓z_evL_nil, ↓z_fun0, ↓z_coeL_cons, ↓z_coe_oag, ↓z_coeC_cons, ↓z_coeS_int, ↓z_coeS_sl, ↓z_coeC_nil, ↓z_coeL_nil, true_and])
  intro _ _
  refine call_fn (fn_Check G rate rs) fun _ => ?_
  (simp -dsimp only [↓z_put, Nat.reduceLT, ↓z_ops_plain, ↓z_assign, ↓evW_tmp, ↓lkW_cons, ↓reduceIte, ↓z_ops_nil, ↓z_seq_nrm, ↓z_seq, ↓z_region, ↓z_move, ↓z_binOp, ↓evW_const, ↓constW_int, inR_i64, Int.reduceNeg, Int.reduceLE, and_self, ↓z_bn_neq, ↓z_cond, ↓z_cnd, ↓z_gdt, ne_eq, ↓z_build, ↓y_ty27, ↓z_blTy_st, ↓y_zr27, ↓z_bld_nil, Nat.reduceEqDiff, ↓z_store, ↓y_sz27, ↓z_cl_oag, List.length_cons, List.length_nil, Nat.zero_add, Nat.reduceAdd, ↓z_store_ptr, ↓lkoW_cons, Nat.reduceLeDiff, ↓spsW_cons, ↓drW_cons, reduceCtorEq, Nat.reduceSub, ↓drW_nil, ↓z_cat_nil_r, ↓z_so_cons, ↓z_put_none, ↓z_ret, ↓z_seq_rt, ↓z_end_rt, resLW, res1W, ↓z_agTy_st, ↓z_coeL_cons, ↓z_coeL_nil, ↓z_pack2, D.tup.injEq, List.cons.injEq, and_true, ↓z_coe_int, D.int.injEq, true_and, ↓loadW_ptr, ↓z_rd_t, ↓z_sub_c, ↓z_sub_nil, ↓z_coe_oag, ↓z_coeC_cons, ↓z_coeS_int, ↓z_coeC_nil, D.agg.injEq, ↓z_skip, ↓z_buildSlice, ↓y_ty99, ↓z_slTy, ↓y_sz3, Nat.mul_one, maxLen_lit, ↓y_zr3, ↓z_repL_s, ↓z_repL_0, ↓z_bld_cons, ↓z_cl_int, ↓z_allP_cons, ↓z_isP_int, ↓z_allP_nil, ↓z_callv, ↓evW_func, ↓z_evL_cons, ↓z_evL_nil, ↓z_fun0, ↓z_coe_slx, z_ite, Classical.not_not])
  refine ⟨fun hc => ⟨rfl, ⟨(now_no (by rw [nowE_c hc]; exact hc)).1.symm, (now_no (by rw [nowE_c hc]; exact hc)).2.symm⟩, (nowE_c hc).symm⟩, fun hc => ?_⟩
  refine call_fn (fn_instants1 G x) fun _ => ?_
  (simp -dsimp only [↓z_put, Nat.reduceLT, ↓z_ops_plain, ↓z_unOp, ↓evW_tmp, ↓lkW_cons, ↓reduceIte, ↓z_un_not, ↓z_ops_nil, ↓z_seq_nrm, ↓z_cond, ↓z_cnd, ↓z_gnt, ↓z_gdf, ↓z_skip, ↓z_seq, ↓z_region, ↓z_load, Nat.reduceEqDiff, ↓y_ty24, ↓y_sz24, ↓z_agTy_st, ↓loadW_ptr, ↓lkoW_cons, Nat.zero_add, reduceCtorEq, ↓z_rd_t, List.length_cons, List.length_nil, Nat.reduceAdd, Nat.reduceLeDiff, ↓z_sub_c, ↓z_sub_nil, ↓z_move, ↓z_callv, ↓evW_func, ↓z_evL_cons, ↓z_evL_nil, ↓z_fun0, ↓z_coeL_cons, ↓z_coe_oag, ↓z_coeC_cons, ↓z_coeS_int, ↓z_coeS_sl, ↓z_coeC_nil, ↓z_coe_int, ↓z_coeL_nil, true_and, ↓z_build, ↓y_ty27, ↓z_blTy_st, ↓y_zr27, ↓z_bld_nil, ↓z_store, ↓y_sz27, ↓z_cl_oag, ↓z_store_ptr, ↓spsW_cons, ↓drW_cons, Nat.reduceSub, ↓drW_nil, ↓z_cat_nil_r, ↓z_so_cons, ↓z_put_none, ↓z_assign, ↓evW_const, ↓constW_int, inR_i64, Int.reduceNeg, Int.reduceLE, and_self, ↓z_ret, ↓z_seq_rt, ↓z_end_rt, resLW, res1W, ne_eq, ↓z_pack2, D.tup.injEq, List.cons.injEq, and_true, D.int.injEq, D.agg.injEq, z_ite])
  refine ⟨fun hx => call_fn (fn_bounds G rate x rs hc hx) fun _ => ?_, fun hx => ?_⟩
  · (simp -dsimp only [↓z_put, Nat.reduceLT, ↓z_ops_plain, ↓z_move, ↓evW_tmp, ↓lkW_cons, ↓reduceIte, ↓z_extract, ↓z_ex, ↓nthW_cons, Nat.reduceEqDiff, reduceCtorEq, Nat.reduceSub, ↓z_assign, ↓z_ops_nil, ↓z_seq_nrm, ↓z_seq, ↓z_region, ↓z_binOp, ↓z_bn_gtr, ↓z_cond, ↓z_cnd, ↓z_gdt, ↓z_build, ↓y_ty27, ↓z_blTy_st, ↓y_zr27, ↓z_bld_nil, ↓z_store, ↓y_sz27, ↓z_cl_oag, List.length_cons, List.length_nil, Nat.zero_add, Nat.reduceAdd, ↓z_store_ptr, ↓lkoW_cons, Nat.reduceLeDiff, ↓spsW_cons, ↓drW_cons, ↓drW_nil, ↓z_cat_nil_r, ↓z_so_cons, ↓z_put_none, ↓evW_const, ↓constW_int, inR_i64, Int.reduceNeg, Int.reduceLE, and_self, ↓z_ret, ↓z_seq_rt, ↓z_end_rt, resLW, res1W, ne_eq, ↓z_agTy_st, ↓z_coeL_cons, ↓z_coeL_nil, ↓z_pack2, D.tup.injEq, List.cons.injEq, and_true, ↓z_coe_int, D.int.injEq, true_and, ↓loadW_ptr, ↓z_rd_t, ↓z_sub_c, ↓z_sub_nil, ↓z_coe_oag, ↓z_coeC_cons, ↓z_coeS_int, ↓z_coeC_nil, D.agg.injEq, ↓z_skip, ↓z_bld_cons, ↓y_fl27x0, ↓y_sz3, ↓z_cl_int, ↓catW_cons, ↓catW_nil, ↓y_fl27x1, z_ite]); (try simp only [Int.toNat_natCast, Nat.mul_one, Bool.or_false, Bool.false_or, Bool.or_self, Bool.or_true])
    refine ⟨fun g => ?_, fun g => ?_⟩
    · have e := nowE_n hc hx g
      have z := now_no (show nowE rate x rs ≠ 0 by omega)
      exact ⟨rfl, ⟨z.1.symm, z.2.symm⟩, e.symm⟩
    · have e := nowE_0 hc hx g
      have z := now_yes e
      exact ⟨rfl, ⟨z.1.symm, z.2.symm⟩, e.symm⟩
  · have e := nowE_x hc hx
    have z := now_no (show nowE rate x rs ≠ 0 by omega)
    exact ⟨rfl, ⟨z.1.symm, z.2.symm⟩, e.symm⟩
set_option maxRecDepth 100000 in
set_option maxHeartbeats 8000000 in
theorem fn_refNow (G : Glob) (rate x : Int) (rs : List Rd) : Fn G Try.prog 15 [.agg (clkA rate rs), .int .i64 x] (.agg [.int .i64 (nowL rate x rs), .int .i64 (nowH rate x rs), .int .i64 (nowE rate x rs)]) := by
  unfold clkA
  refine Fn.mk (c := _) Try.func15 rfl rfl Try.ntmps15 Try.results15 ?_
  (simp -dsimp only [bodyW, List.length_cons, List.length_nil, Nat.zero_add, Nat.reduceAdd, Nat.reduceLeDiff, wfL, ↓z_seq, ↓z_region, ↓z_ops_plain, ↓z_box, ↓evW_tmp, ↓z_lk_env, ↓reduceIte, ↓z_cl_agg, ↓z_nmC_cons, ↓z_mn'_int, ↓z_mn'_sl, ↓z_nmC_nil, and_self, ↓z_new, ↓z_nm_nil, Nat.reduceLT, ↓z_pg_env, ↓z_mn_agg, ↓z_mn_int, ↓z_pg_env0, ↓z_put, ↓z_alloc, ↓y_zr41, ↓z_nm_cons, ↓z_pg_cons, ↓z_mn_ptr, reduceCtorEq, ↓z_pg_nil, ↓z_ops_nil, ↓z_seq_nrm, ↓z_load, ↓lkW_cons, Nat.reduceEqDiff, ↓y_ty24, ↓y_sz24, ↓z_agTy_st, ↓loadW_ptr, ↓lkoW_cons, ↓z_rd_t, ↓z_sub_c, ↓z_sub_nil, ↓z_callv, ↓evW_func, ↓z_evL_cons, ↓z_evL_nil, ↓z_fun0, ↓z_coeL_cons, ↓z_coe_oag, ↓z_coeC_cons, ↓z_coeS_int, ↓z_coeS_sl, ↓z_coeC_nil, ↓z_coeL_nil, true_and])
  intro _ _
  refine call_fn (fn_refCheck G rate rs) fun _ => ?_
  (simp -dsimp only [↓z_put, Nat.reduceLT, ↓z_ops_plain, ↓z_assign, ↓evW_tmp, ↓lkW_cons, ↓reduceIte, ↓z_ops_nil, ↓z_seq_nrm, ↓z_seq, ↓z_region, ↓z_move, ↓z_binOp, ↓evW_const, ↓constW_int, inR_i64, Int.reduceNeg, Int.reduceLE, and_self, ↓z_bn_neq, ↓z_cond, ↓z_cnd, ↓z_gdt, ne_eq, Nat.reduceEqDiff, ↓z_build, ↓y_ty41, ↓z_blTy_st, ↓y_zr41, ↓z_bld_cons, ↓y_fl41x1, ↓y_sz32, ↓z_cl_int, List.length_cons, List.length_nil, Nat.zero_add, Nat.reduceAdd, Nat.reduceLeDiff, ↓spsW_cons, reduceCtorEq, Nat.reduceSub, ↓drW_cons, ↓drW_nil, ↓z_cat_nil_r, ↓z_bld_nil, ↓z_store, ↓y_sz41, ↓z_cl_oag, ↓z_store_ptr, ↓lkoW_cons, ↓z_so_cons, ↓z_put_none, ↓z_ret, ↓z_seq_rt, ↓z_end_rt, resLW, res1W, ↓z_agTy_st, ↓z_coeL_cons, ↓z_coeL_nil, ↓z_pack1, ↓loadW_ptr, ↓z_rd_t, ↓z_sub_c, ↓z_sub_nil, ↓z_coe_oag, ↓z_coeC_cons, ↓z_coeS_int, ↓z_coeC_nil, D.agg.injEq, List.cons.injEq, D.int.injEq, true_and, and_true, ↓z_skip, ↓z_callv, ↓evW_func, ↓z_evL_cons, ↓z_evL_nil, ↓z_fun0, ↓z_coe_int, z_ite, Classical.not_not])
  refine ⟨fun hc => ⟨rfl, (now_no (by rw [nowE_c hc]; exact hc)).1.symm, (now_no (by rw [nowE_c hc]; exact hc)).2.symm, (nowE_c hc).symm⟩, fun hc => ?_⟩
  refine call_fn (fn_instant G x) fun _ => ?_
  (simp -dsimp only [↓z_put, Nat.reduceLT, ↓z_ops_plain, ↓z_assign, ↓evW_tmp, ↓lkW_cons, ↓reduceIte, ↓z_ops_nil, ↓z_seq_nrm, ↓z_seq, ↓z_region, ↓z_move, ↓z_unOp, ↓z_un_not, ↓z_cond, ↓z_cnd, ↓z_gnt, ↓z_gdf, ↓z_skip, ↓z_load, Nat.reduceEqDiff, ↓y_ty24, ↓y_sz24, ↓z_agTy_st, ↓loadW_ptr, ↓lkoW_cons, Nat.zero_add, reduceCtorEq, ↓z_rd_t, List.length_cons, List.length_nil, Nat.reduceAdd, Nat.reduceLeDiff, ↓z_sub_c, ↓z_sub_nil, ↓z_callv, ↓evW_func, ↓z_evL_cons, ↓z_evL_nil, ↓z_fun0, ↓z_coeL_cons, ↓z_coe_oag, ↓z_coeC_cons, ↓z_coeS_int, ↓z_coeS_sl, ↓z_coeC_nil, ↓z_coe_int, ↓z_coeL_nil, true_and, ↓z_build, ↓y_ty41, ↓z_blTy_st, ↓y_zr41, ↓z_bld_cons, ↓y_fl41x1, ↓y_sz32, ↓evW_const, ↓constW_int, inR_i64, Int.reduceNeg, Int.reduceLE, and_self, ↓z_cl_int, ↓spsW_cons, Nat.reduceSub, ↓drW_cons, ↓drW_nil, ↓z_cat_nil_r, ↓z_bld_nil, ↓z_store, ↓y_sz41, ↓z_cl_oag, ↓z_store_ptr, ↓z_so_cons, ↓z_put_none, ↓z_ret, ↓z_seq_rt, ↓z_end_rt, resLW, res1W, ne_eq, ↓z_pack1, D.agg.injEq, List.cons.injEq, D.int.injEq, and_true, z_ite])
  refine ⟨fun hx => call_fn (fn_Bounds G rate x rs hc hx) fun _ => ?_, fun hx => ?_⟩
  · (simp -dsimp only [↓z_put, Nat.reduceLT, ↓z_ops_plain, ↓z_alloc, ↓y_zr27, ↓z_new, ↓z_nm_cons, ↓z_nmC_cons, ↓z_mn'_int, ↓z_nmC_nil, and_self, ↓z_mn'_sl, ↓z_nm_nil, Nat.zero_add, Nat.reduceAdd, ↓z_pg_cons, ↓z_mn_agg, ↓z_mn_int, ↓z_mn_oag, ↓z_mnL_int, ↓z_mnL_sl, ↓z_mnL_nil, ↓z_mn_bool, ↓z_mn_ptr, Nat.reduceEqDiff, ↓reduceIte, reduceCtorEq, ↓z_pg_nil, ↓z_store, ↓evW_tmp, ↓lkW_cons, ↓y_sz27, ↓z_cl_agg, List.length_cons, List.length_nil, ↓z_store_ptr, ↓lkoW_cons, Nat.reduceLeDiff, ↓spsW_cons, ↓drW_cons, Nat.reduceSub, ↓drW_nil, ↓z_cat_nil_r, ↓z_so_cons, ↓z_put_none, ↓z_ops_nil, ↓z_seq_nrm, ↓z_seq, ↓z_region, ↓z_fieldAddr, ↓y_fl27x0, ↓y_sz3, ne_eq, not_false_eq_true, ↓z_fa_ptr, ↓z_load, ↓y_ty3, ↓z_agTy_int, ↓loadW_ptr, ↓z_rd_f, ↓nthW_cons, ↓y_fl27x1, ↓z_binOp, ↓z_bn_gtr, ↓z_cond, ↓z_cnd, ↓z_gdt, ↓z_build, ↓y_ty41, ↓z_blTy_st, ↓y_zr41, ↓z_bld_cons, ↓y_fl41x1, ↓y_sz32, ↓evW_const, ↓constW_int, inR_i64, Int.reduceNeg, Int.reduceLE, ↓z_cl_int, ↓z_bld_nil, ↓y_sz41, ↓z_cl_oag, ↓z_ret, ↓z_seq_rt, ↓z_end_rt, resLW, res1W, ↓z_agTy_st, ↓z_coeL_cons, ↓z_coeL_nil, ↓z_pack1, ↓z_rd_t, ↓z_sub_c, ↓z_sub_nil, ↓z_coe_oag, ↓z_coeC_cons, ↓z_coeS_int, ↓z_coeC_nil, D.agg.injEq, List.cons.injEq, D.int.injEq, true_and, and_true, ↓z_skip, ↓y_ty27, ↓y_fl41x0, ↓catW_cons, ↓catW_nil, z_ite]); (try simp only [Int.toNat_natCast, Nat.mul_one, Bool.or_false, Bool.false_or, Bool.or_self, Bool.or_true])
    refine ⟨fun g => ?_, fun g => ?_⟩
    · have e := nowE_n hc hx g
      have z := now_no (show nowE rate x rs ≠ 0 by omega)
      exact ⟨rfl, z.1.symm, z.2.symm, e.symm⟩
    · have e := nowE_0 hc hx g
      have z := now_yes e
      exact ⟨rfl, z.1.symm, z.2.symm, e.symm⟩
  · have e := nowE_x hc hx
    have z := now_no (show nowE rate x rs ≠ 0 by omega)
    exact ⟨rfl, z.1.symm, z.2.symm, e.symm⟩
def joinE (a b c d : Int) : Int := if ¬ valP a b ∨ ¬ valP c d then 3 else if min b d < max a c then 24 else 0
def joinL (a b c d : Int) : Int := if joinE a b c d = 0 then max a c else 0
def joinH (a b c d : Int) : Int := if joinE a b c d = 0 then min b d else 0
theorem join_3 {a b c d : Int} (h : ¬ valP a b ∨ ¬ valP c d) : 0 = joinL a b c d ∧ 0 = joinH a b c d ∧ 3 = joinE a b c d := by
  have e : joinE a b c d = 3 := by unfold joinE; rw [if_pos h]
  unfold joinL joinH; rw [e]; exact ⟨rfl, rfl, rfl⟩
theorem join_24 {a b c d : Int} (h : valP a b) (h1 : valP c d) (h2 : min b d < max a c) : 0 = joinL a b c d ∧ 0 = joinH a b c d ∧ 24 = joinE a b c d := by
  have e : joinE a b c d = 24 := by unfold joinE; rw [if_neg (by omega), if_pos h2]
  unfold joinL joinH; rw [e]; exact ⟨rfl, rfl, rfl⟩
theorem join_0 {a b c d : Int} (h : valP a b) (h1 : valP c d) (h2 : ¬ min b d < max a c) : max a c = joinL a b c d ∧ min b d = joinH a b c d ∧ 0 = joinE a b c d := by
  have e : joinE a b c d = 0 := by unfold joinE; rw [if_neg (by omega), if_neg h2]
  unfold joinL joinH; rw [e]; exact ⟨rfl, rfl, rfl⟩
set_option maxRecDepth 100000 in
set_option maxHeartbeats 8000000 in
theorem fn_Join (G : Glob) (a b c d : Int) : Fn G Try.prog 23 [.agg [.int .i64 a, .int .i64 b], .agg [.int .i64 c, .int .i64 d]] (.tup [.agg [.int .i64 (joinL a b c d), .int .i64 (joinH a b c d)], .int .i64 (joinE a b c d)]) := by
  refine Fn.mk (c := _) Try.func23 rfl rfl Try.ntmps23 Try.results23 ?_
  (simp -dsimp only [bodyW, List.length_cons, List.length_nil, Nat.zero_add, Nat.reduceAdd, Nat.reduceLeDiff, wfL, ↓z_seq, ↓z_region, ↓z_ops_plain, ↓z_box, ↓evW_tmp, ↓z_lk_env, ↓reduceIte, ↓z_cl_agg, ↓z_nmC_cons, ↓z_mn'_int, ↓z_nmC_nil, and_self, ↓z_new, ↓z_nm_nil, Nat.reduceLT, ↓z_pg_env, ↓z_mn_agg, ↓z_pg_env0, ↓z_put, ↓lkW_cons, Nat.reduceEqDiff, reduceCtorEq, ↓z_nm_cons, ↓z_pg_cons, ↓z_mn_ptr, ↓z_pg_nil, ↓z_alloc, ↓y_zr27, ↓z_assign, ↓evW_const, ↓constW_int, inR_i64, Int.reduceNeg, Int.reduceLE, ↓z_ops_nil, ↓z_seq_nrm, ↓z_fieldAddr, ↓y_fl27x0, ↓y_sz3, ne_eq, not_false_eq_true, ↓z_fa_ptr, ↓z_load, ↓y_ty3, ↓z_agTy_int, ↓loadW_ptr, ↓lkoW_cons, ↓z_rd_f, ↓nthW_cons, ↓z_callb, ↓z_evL_cons, ↓z_evL_nil, ↓z_max, ↓z_mx_max, ↓z_mx_nil, ↓y_fl27x1, Nat.reduceSub, ↓z_min, ↓z_mx_min, ↓z_build, ↓y_ty27, ↓z_blTy_st, ↓z_bld_cons, ↓z_cl_int, ↓spsW_cons, ↓drW_cons, ↓catW_cons, ↓catW_nil, ↓drW_nil, ↓z_cat_nil_r, ↓z_bld_nil, ↓z_mn_oag, ↓z_mnL_int, ↓z_mnL_nil, ↓z_mn_int, ↓z_store, ↓y_sz27, ↓z_cl_oag, ↓z_store_ptr, ↓z_so_cons, ↓z_put_none, ↓z_block, ↓z_agTy_st, ↓z_rd_t, ↓z_sub_c, ↓z_sub_nil, ↓z_callv, ↓evW_func, ↓z_fun0, ↓z_coeL_cons, ↓z_coe_oag, ↓z_coeC_cons, ↓z_coeS_int, ↓z_coeC_nil, ↓z_coeL_nil, true_and])
  intro _ _
  refine ⟨rfl, call_fn (fn_valid G a b) fun _ => ?_⟩
  (simp -dsimp only [↓z_put, Nat.reduceLT, ↓z_ops_plain, ↓z_unOp, ↓evW_tmp, ↓lkW_cons, ↓reduceIte, ↓z_un_not, ↓z_move, ↓z_ops_guard, ↓z_grd, ↓z_dst_s, ↓z_dst_0, ↓z_grdD_b, ↓z_gnf, ↓z_gdt, ↓z_load, Nat.reduceEqDiff, ↓y_ty27, ↓y_sz27, ↓z_agTy_st, ↓loadW_ptr, ↓lkoW_cons, Nat.zero_add, Nat.reduceAdd, ↓z_rd_t, List.length_cons, List.length_nil, Nat.reduceLeDiff, ↓z_sub_c, ↓z_sub_nil, ↓z_gff, ↓z_callv, ↓evW_func, ↓z_evL_cons, ↓z_evL_nil, ↓z_fun0, ↓z_coeL_cons, ↓z_coe_oag, ↓z_coeC_cons, ↓z_coeS_int, ↓z_coeC_nil, ↓z_coeL_nil, true_and, ↓z_gft, ↓z_pick, ↓z_pick_b, ↓z_gnt, ↓evW_const, ↓constW_bool, ↓z_assign, ↓z_ops_nil, ↓z_seq_nrm, ↓z_cond, ↓z_cnd, ↓z_gtt, ↓z_seq, ↓z_region, ↓z_build, ↓z_blTy_st, ↓y_zr27, ↓z_bld_nil, ↓z_store, ↓z_cl_oag, ↓z_store_ptr, ↓spsW_cons, ↓drW_cons, reduceCtorEq, Nat.reduceSub, ↓drW_nil, ↓z_cat_nil_r, ↓z_so_cons, ↓z_put_none, ↓constW_int, inR_i64, Int.reduceNeg, Int.reduceLE, and_self, ↓z_ret, ↓z_blk_rt, ↓z_seq_rt, ↓z_end_rt, resLW, res1W, Bool.not_false, ↓z_pack2, D.tup.injEq, List.cons.injEq, and_true, ↓z_coe_int, D.int.injEq, D.agg.injEq, z_ite])
  refine ⟨fun v1 => call_fn (fn_valid G c d) fun _ => ?_, fun v1 => ?_⟩
  · (simp -dsimp only [↓z_put, Nat.reduceLT, ↓z_ops_guard, ↓z_grd, ↓z_dst_s, ↓z_dst_0, ↓lkW_cons, Nat.reduceEqDiff, ↓reduceIte, ↓z_grdD_b, ↓z_gff, ↓z_unOp, ↓evW_tmp, ↓z_un_not, ↓z_ops_plain, ↓z_pick, ↓z_pick_b, ↓z_gft, ↓z_assign, ↓z_ops_nil, ↓z_seq_nrm, ↓z_cond, ↓z_cnd, ↓z_gnt, ↓z_gdf, ↓z_seq, ↓z_region, ↓z_fieldAddr, ↓y_fl27x0, ↓y_sz3, ne_eq, reduceCtorEq, not_false_eq_true, ↓z_fa_ptr, ↓z_load, ↓y_ty3, ↓z_agTy_int, ↓loadW_ptr, ↓lkoW_cons, Nat.zero_add, Nat.reduceAdd, ↓z_rd_f, ↓nthW_cons, ↓y_fl27x1, Nat.reduceSub, ↓z_binOp, ↓z_bn_gtr, ↓z_gdt, ↓z_build, ↓y_ty27, ↓z_blTy_st, ↓y_zr27, ↓z_bld_nil, ↓z_store, ↓y_sz27, ↓z_cl_oag, List.length_cons, List.length_nil, ↓z_store_ptr, Nat.reduceLeDiff, ↓spsW_cons, ↓drW_cons, ↓drW_nil, ↓z_cat_nil_r, ↓z_so_cons, ↓z_put_none, ↓evW_const, ↓constW_int, inR_i64, Int.reduceNeg, Int.reduceLE, and_self, ↓z_ret, ↓z_blk_rt, ↓z_seq_rt, ↓z_end_rt, resLW, res1W, ↓z_agTy_st, ↓z_coeL_cons, ↓z_coeL_nil, ↓z_pack2, D.tup.injEq, List.cons.injEq, and_true, ↓z_coe_int, D.int.injEq, true_and, ↓z_rd_t, ↓z_sub_c, ↓z_sub_nil, ↓z_coe_oag, ↓z_coeC_cons, ↓z_coeS_int, ↓z_coeC_nil, D.agg.injEq, ↓z_skip, ↓z_blk_nrm, z_ite]); (try simp only [Int.toNat_natCast, Nat.mul_one, Bool.or_false, Bool.false_or, Bool.or_self, Bool.or_true])
    refine ⟨fun v2 => ⟨fun g => ?_, fun g => ?_⟩, fun v2 => ?_⟩
    · obtain ⟨z1, z2, z3⟩ := join_24 v1 v2 g; exact ⟨rfl, ⟨z1, z2⟩, z3⟩
    · obtain ⟨z1, z2, z3⟩ := join_0 v1 v2 g; exact ⟨⟨z1, z2⟩, z3⟩
    · obtain ⟨z1, z2, z3⟩ := join_3 (a := a) (b := b) (c := c) (d := d) (.inr v2); exact ⟨rfl, ⟨z1, z2⟩, z3⟩
  · obtain ⟨z1, z2, z3⟩ := join_3 (a := a) (b := b) (c := c) (d := d) (.inl v1); exact ⟨rfl, ⟨z1, z2⟩, z3⟩
set_option maxRecDepth 100000 in
set_option maxHeartbeats 8000000 in
theorem fn_refJoin (G : Glob) (a b c d : Int) : Fn G Try.prog 24 [.agg [.int .i64 a, .int .i64 b], .agg [.int .i64 c, .int .i64 d]] (.agg [.int .i64 (joinL a b c d), .int .i64 (joinH a b c d), .int .i64 (joinE a b c d)]) := by
  refine Fn.mk (c := _) Try.func24 rfl rfl Try.ntmps24 Try.results24 ?_
  (simp -dsimp only [bodyW, List.length_cons, List.length_nil, Nat.zero_add, Nat.reduceAdd, Nat.reduceLeDiff, wfL, ↓z_seq, ↓z_region, ↓z_ops_plain, ↓z_box, ↓evW_tmp, ↓z_lk_env, ↓reduceIte, ↓z_cl_agg, ↓z_nmC_cons, ↓z_mn'_int, ↓z_nmC_nil, and_self, ↓z_new, ↓z_nm_nil, Nat.reduceLT, ↓z_pg_env, ↓z_mn_agg, ↓z_pg_env0, ↓z_put, ↓lkW_cons, Nat.reduceEqDiff, reduceCtorEq, ↓z_nm_cons, ↓z_pg_cons, ↓z_mn_ptr, ↓z_pg_nil, ↓z_alloc, ↓y_zr41, ↓z_ops_nil, ↓z_seq_nrm, ↓z_load, ↓y_ty27, ↓y_sz27, ↓z_agTy_st, ↓loadW_ptr, ↓lkoW_cons, ↓z_rd_t, ↓z_sub_c, ↓z_sub_nil, ↓z_callv, ↓evW_func, ↓z_evL_cons, ↓z_evL_nil, ↓z_fun0, ↓z_coeL_cons, ↓z_coe_oag, ↓z_coeC_cons, ↓z_coeS_int, ↓z_coeC_nil, ↓z_coeL_nil, true_and])
  intro _ _
  refine call_fn (fn_Valid G a b) fun _ => ?_
  (simp -dsimp only [↓z_put, Nat.reduceLT, ↓z_ops_plain, ↓z_assign, ↓evW_tmp, ↓lkW_cons, ↓reduceIte, ↓z_ops_nil, ↓z_seq_nrm, ↓z_seq, ↓z_region, ↓z_load, Nat.reduceEqDiff, ↓y_ty27, ↓y_sz27, ↓z_agTy_st, ↓loadW_ptr, ↓lkoW_cons, Nat.zero_add, Nat.reduceAdd, ↓z_rd_t, List.length_cons, List.length_nil, Nat.reduceLeDiff, ↓z_sub_c, ↓z_sub_nil, ↓z_callv, ↓evW_func, ↓z_evL_cons, ↓z_evL_nil, ↓z_fun0, ↓z_coeL_cons, ↓z_coe_oag, ↓z_coeC_cons, ↓z_coeS_int, ↓z_coeC_nil, ↓z_coeL_nil, true_and])
  refine call_fn (fn_Valid G c d) fun _ => ?_
  (simp -dsimp only [↓z_put, Nat.reduceLT, ↓z_ops_plain, ↓z_assign, ↓evW_tmp, ↓lkW_cons, ↓reduceIte, ↓z_ops_nil, ↓z_seq_nrm, ↓z_seq, ↓z_region, ↓z_move, Nat.reduceEqDiff, ↓z_unOp, ↓z_un_not, ↓z_ops_guard, ↓z_grd, ↓z_dst_s, ↓z_dst_0, ↓z_grdD_b, ↓z_gnf, ↓z_gdt, ↓z_gff, ↓z_pick, ↓z_pick_b, ↓z_gft, ↓z_cond, ↓z_cnd, ↓z_gnt, ↓z_gdf, ↓z_skip, ↓z_fieldAddr, ↓y_fl27x0, ↓y_sz3, ne_eq, reduceCtorEq, not_false_eq_true, ↓z_fa_ptr, ↓z_load, ↓y_ty3, ↓z_agTy_int, ↓loadW_ptr, ↓lkoW_cons, Nat.zero_add, Nat.reduceAdd, ↓z_rd_f, ↓nthW_cons, ↓z_callb, ↓z_evL_cons, ↓z_evL_nil, ↓z_max, ↓z_mx_max, ↓z_mx_nil, ↓y_fl27x1, Nat.reduceSub, ↓z_min, ↓z_mx_min, ↓z_build, ↓y_ty27, ↓z_blTy_st, ↓y_zr27, ↓z_bld_cons, ↓z_cl_int, List.length_cons, List.length_nil, Nat.reduceLeDiff, ↓spsW_cons, ↓drW_cons, ↓catW_cons, ↓catW_nil, ↓drW_nil, ↓z_cat_nil_r, ↓z_bld_nil, ↓z_alloc, ↓z_new, ↓z_nm_cons, ↓z_nmC_cons, ↓z_mn'_int, ↓z_nmC_nil, and_self, ↓z_nm_nil, ↓z_pg_cons, ↓z_mn_oag, ↓z_mnL_int, ↓z_mnL_nil, ↓z_mn_int, ↓z_mn_ptr, ↓z_mn_bool, ↓z_mn_agg, ↓z_pg_nil, ↓z_store, ↓y_sz27, ↓z_cl_oag, ↓z_store_ptr, ↓z_so_cons, ↓z_put_none, ↓z_binOp, ↓z_bn_gtr, ↓y_ty41, ↓y_zr41, ↓y_fl41x1, ↓y_sz32, ↓evW_const, ↓constW_int, inR_i64, Int.reduceNeg, Int.reduceLE, ↓y_sz41, ↓z_ret, ↓z_seq_rt, ↓z_end_rt, resLW, res1W, ↓z_agTy_st, ↓z_coeL_cons, ↓z_coeL_nil, ↓z_pack1, ↓z_rd_t, ↓z_sub_c, ↓z_sub_nil, ↓z_coe_oag, ↓z_coeC_cons, ↓z_coeS_int, ↓z_coeC_nil, D.agg.injEq, List.cons.injEq, D.int.injEq, true_and, and_true, ↓y_fl41x0, z_ite, ↓constW_bool, ↓z_gtt, Bool.not_false]); (try simp only [Int.toNat_natCast, Nat.mul_one, Bool.or_false, Bool.false_or, Bool.or_self, Bool.or_true])
  refine ⟨fun v1 => ⟨fun v2 => ⟨rfl, fun g => ?_, fun g => ?_⟩, fun v2 => ?_⟩, fun v1 => ?_⟩
  · exact ⟨rfl, join_24 v1 v2 g⟩
  · exact ⟨rfl, join_0 v1 v2 g⟩
  · exact ⟨rfl, join_3 (.inr v2)⟩
  · exact ⟨rfl, join_3 (.inl v1)⟩
def ordI (a b c d : Int) : Int := if b < c then -1 else if d < a then 1 else 0
set_option maxRecDepth 100000 in
set_option maxHeartbeats 8000000 in
theorem fn_Order (G : Glob) (a b c d : Int) : Fn G Try.prog 26 [.agg [.int .i64 a, .int .i64 b], .agg [.int .i64 c, .int .i64 d]] (.int .i64 (ordI a b c d)) := by
  refine Fn.mk (c := _) Try.func26 rfl rfl Try.ntmps26 Try.results26 ?_
  (simp -dsimp only [bodyW, List.length_cons, List.length_nil, Nat.zero_add, Nat.reduceAdd, Nat.reduceLeDiff, wfL, ↓z_seq, ↓z_region, ↓z_ops_plain, ↓z_box, ↓evW_tmp, ↓z_lk_env, ↓reduceIte, ↓z_cl_agg, ↓z_nmC_cons, ↓z_mn'_int, ↓z_nmC_nil, and_self, ↓z_new, ↓z_nm_nil, Nat.reduceLT, ↓z_pg_env, ↓z_mn_agg, ↓z_pg_env0, ↓z_put, ↓lkW_cons, Nat.reduceEqDiff, reduceCtorEq, ↓z_nm_cons, ↓z_pg_cons, ↓z_mn_ptr, ↓z_pg_nil, ↓z_assign, ↓evW_const, ↓constW_int, inR_i64, Int.reduceNeg, Int.reduceLE, ↓z_ops_nil, ↓z_seq_nrm, ↓z_block, ↓z_fieldAddr, ↓y_fl27x1, ↓y_sz3, ne_eq, not_false_eq_true, ↓z_fa_ptr, ↓z_load, ↓y_ty3, ↓z_agTy_int, ↓loadW_ptr, ↓lkoW_cons, ↓z_rd_f, ↓nthW_cons, Nat.reduceSub, ↓y_fl27x0, ↓z_binOp, ↓z_bn_lss, ↓z_cond, ↓z_cnd, ↓z_gdt, ↓z_ret, ↓z_blk_rt, ↓z_seq_rt, ↓z_end_rt, resLW, res1W, ↓z_coeL_cons, ↓z_coeL_nil, ↓z_pack1, ↓z_coe_int, D.int.injEq, true_and, ↓z_skip, ↓z_blk_nrm, z_ite]); (try simp only [Int.toNat_natCast, Nat.mul_one, Bool.or_false, Bool.false_or, Bool.or_self, Bool.or_true])
  intro _ _
  unfold ordI
  refine ⟨fun g => by rw [if_pos g], fun g => ?_⟩
  rw [if_neg g]
  exact ⟨fun g => by rw [if_pos g], fun g => by rw [if_neg g]⟩
set_option maxRecDepth 100000 in
set_option maxHeartbeats 8000000 in
theorem fn_refOrder (G : Glob) (a b c d : Int) : Fn G Try.prog 27 [.agg [.int .i64 a, .int .i64 b], .agg [.int .i64 c, .int .i64 d]] (.int .i64 (ordI a b c d)) := by
  refine Fn.mk (c := _) Try.func27 rfl rfl Try.ntmps27 Try.results27 ?_
  (simp -dsimp only [bodyW, List.length_cons, List.length_nil, Nat.zero_add, Nat.reduceAdd, Nat.reduceLeDiff, wfL, ↓z_seq, ↓z_region, ↓z_ops_plain, ↓z_box, ↓evW_tmp, ↓z_lk_env, ↓reduceIte, ↓z_cl_agg, ↓z_nmC_cons, ↓z_mn'_int, ↓z_nmC_nil, and_self, ↓z_new, ↓z_nm_nil, Nat.reduceLT, ↓z_pg_env, ↓z_mn_agg, ↓z_pg_env0, ↓z_put, ↓lkW_cons, Nat.reduceEqDiff, reduceCtorEq, ↓z_nm_cons, ↓z_pg_cons, ↓z_mn_ptr, ↓z_pg_nil, ↓z_assign, ↓evW_const, ↓constW_int, inR_i64, Int.reduceNeg, Int.reduceLE, ↓z_ops_nil, ↓z_seq_nrm, ↓z_fieldAddr, ↓y_fl27x1, ↓y_sz3, ne_eq, not_false_eq_true, ↓z_fa_ptr, ↓z_load, ↓y_ty3, ↓z_agTy_int, ↓loadW_ptr, ↓lkoW_cons, ↓z_rd_f, ↓nthW_cons, Nat.reduceSub, ↓y_fl27x0, ↓z_binOp, ↓z_bn_lss, ↓z_cond, ↓z_cnd, ↓z_gdt, ↓z_ret, ↓z_seq_rt, ↓z_end_rt, resLW, res1W, ↓z_coeL_cons, ↓z_coeL_nil, ↓z_pack1, ↓z_coe_int, D.int.injEq, true_and, ↓z_skip, z_ite]); (try simp only [Int.toNat_natCast, Nat.mul_one, Bool.or_false, Bool.false_or, Bool.or_self, Bool.or_true])
  intro _ _
  unfold ordI
  refine ⟨fun g => by rw [if_pos g], fun g => ?_⟩
  rw [if_neg g]
  exact ⟨fun g => by rw [if_pos g], fun g => by rw [if_neg g]⟩
end Go.Abs

