/-
  CLOCK, third walks: the ranges that readings allow; bounds.
-/
import Derived.Test.YtdjfnipabekkaaaK2
namespace Go.Abs
open Go.Proofs
theorem chkR_ok : ∀ {rs : List Rd} {l : Int}, chkR rs l = 0 → (∀ r ∈ rs, rdP r ∧ l < r.1) ∧ rs.Pairwise (fun a b => a.1 < b.1)
  | [], _, _ => ⟨by simp, .nil⟩
  | r :: q, l, h => by
    unfold chkR at h
    split at h
    · cases h
    · rename_i h1
      split at h
      · cases h
      · rename_i h2
        obtain ⟨ih1, ih2⟩ := chkR_ok h
        have h1 : rdP r := Classical.not_not.1 h1
        refine ⟨fun x hx => ?_, List.pairwise_cons.2 ⟨fun x hx => (ih1 x hx).2, ih2⟩⟩
        rcases List.mem_cons.1 hx with rfl | hx
        · exact ⟨h1, by omega⟩
        · exact ⟨(ih1 x hx).1, by have := (ih1 x hx).2; omega⟩
theorem chkC_ok {rate : Int} {rs : List Rd} (h : chkC rate rs = 0) : 0 ≤ rate ∧ rate ≤ 100000 ∧ rs.length ≤ 16 ∧ (∀ r ∈ rs, rdP r) ∧ rs.Pairwise (fun a b => a.1 < b.1) := by
  unfold chkC at h
  split at h
  · cases h
  split at h
  · cases h
  obtain ⟨h1, h2⟩ := chkR_ok h
  exact ⟨by omega, by omega, by omega, fun r hr => (h1 r hr).1, h2⟩
def difI (x : Int) (r : Rd) : Int := max (x - r.1) (r.1 - x)
def wLo (rate x : Int) (r : Rd) : Int := if r.1 < x then r.2.1 + pLo rate (difI x r) else r.2.1 - pHi rate (difI x r)
def wHi (rate x : Int) (r : Rd) : Int := if x < r.1 then r.2.2 - pLo rate (difI x r) else r.2.2 + pHi rate (difI x r)
def wDs (rate x : Int) (r : Rd) : List D := [.agg [.int .i64 (wLo rate x r), .int .i64 (wHi rate x r)]]
set_option maxRecDepth 100000 in
set_option maxHeartbeats 8000000 in
theorem fn_ranges (G : Glob) (rate x : Int) (rs : List Rd) : Fn G Try.prog 49 [.agg (clkA rate rs), .int .i64 x] (.fn 53 [.rop (clkA rate rs) 0, .rop [.int .i64 x] 0]) := by
  unfold clkA
  refine Fn.mk (c := _) Try.func49 rfl rfl Try.ntmps49 Try.results49 ?_
  (simp -dsimp only [bodyW, List.length_cons, List.length_nil, Nat.zero_add, Nat.reduceAdd, Nat.reduceLeDiff, wfL, ↓z_seq, ↓z_region, ↓z_ops_plain, ↓z_box, ↓evW_tmp, ↓z_lk_env, ↓reduceIte, ↓z_cl_agg, ↓z_nmC_cons, ↓z_mn'_int, ↓z_mn'_sl, ↓z_nmC_nil, and_self, ↓z_new, ↓z_nm_nil, Nat.reduceLT, ↓z_pg_env, ↓z_mn_agg, ↓z_mn_int, ↓z_pg_env0, ↓z_put, ↓lkW_cons, Nat.reduceEqDiff, reduceCtorEq, ↓z_cl_int, ↓z_nm_cons, ↓z_pg_cons, ↓z_mn_ptr, ↓z_pg_nil, ↓z_assign, ↓evW_const, ↓constW_nilFunc, ↓z_ops_nil, ↓z_seq_nrm, ↓z_makeFunc, ↓z_evL_cons, ↓z_evL_nil, ↓z_ret, ↓z_end_rt, resLW, res1W, ↓z_coeL_cons, ↓z_coeL_nil, ↓z_pack1, ↓z_coe_ofn, ↓z_coeC_cons, ↓z_coeS_ptr, ↓lkoW_cons, ↓z_allP_cons, ↓z_isP_int, ↓z_isP_sl, ↓z_allP_nil, ↓z_coeC_nil, true_and]); (try simp only [Int.toNat_natCast, Nat.mul_one, Bool.or_false, Bool.false_or, Bool.or_self, Bool.or_true])
  exact fun _ _ => trivial
set_option maxRecDepth 100000 in
set_option maxHeartbeats 8000000 in
theorem yd_ranges (G : Glob) (rate x : Int) (rs : List Rd) (hc : chkC rate rs = 0) (hx : instP x) : YieldsC G Try.prog 53 [.rop (clkA rate rs) 0, .rop [.int .i64 x] 0] (rs.map (wDs rate x)) := by
  obtain ⟨c1, c2, c3, c4, c5⟩ := chkC_ok hc
  unfold clkA
  refine YieldsC.mk (c := _) Try.func53 rfl rfl Try.ntmps53 Try.results53 (by simp) fun l => ?_
  (simp -dsimp only [wfL, ↓z_y_seq, ↓z_y_region, ↓z_oy_plain, ↓z_yo_fieldAddr, ↓z_fieldAddr, ↓evW_tmp, ↓z_lk_env, reduceCtorEq, ↓reduceIte, Nat.zero_add, ↓y_fl24x1, ↓y_sz22, ne_eq, not_false_eq_true, ↓z_fa_rop, ↓z_put, Nat.reduceLT, ↓z_yo_load, ↓z_load, ↓lkW_cons, ↓y_ty22, ↓z_agTy_sl, ↓loadW_rop, ↓z_rd_f, ↓nthW_cons, Nat.reduceSub, ↓z_yo_callb, ↓z_callb, ↓z_evL_cons, ↓z_evL_nil, ↓z_len, ↓z_ln_sl, ↓z_yo_move, ↓z_move, ↓evW_const, ↓constW_int, inR_i64, Int.reduceNeg, Int.reduceLE, and_self, ↓z_oy_nil, ↓z_seq_nrm, ↓z_y_block, ↓z_y_loop, true_and]); (try simp only [Int.toNat_natCast, Nat.mul_one, Bool.or_false, Bool.false_or, Bool.or_self, Bool.or_true])
  intro hd _
  refine hold_intro ⟨[], Nat, fun i => ⟨72, 0, [(12, .int .i64 i), (11, .int .i64 rs.length), (10, .sl 3 rs.length (List.flatMap rdC rs)), (0, .yld l), (1, .rop (clkA rate rs) 0), (2, .rop [.int .i64 x] 0)], [(1000000, [.int .i64 i])]⟩, fun i => i ≤ rs.length, fun i => rs.length - i, ?_, ?_⟩
  · unfold clkA; (simp -dsimp only [↓z_ad_nil, ↓z_wk, ↓z_wkE_cons, ↓lkW_cons, ↓reduceIte, D.int.injEq, true_and, Nat.reduceEqDiff, reduceCtorEq, ↓z_lk_env, Nat.zero_add, Nat.reduceAdd, ↓z_wkE_nil, and_self, and_true, ↓z_wkO_cons, ↓lkoW_cons, List.cons.injEq, ↓z_wkO_nil]); (try simp only [Int.toNat_natCast, Nat.mul_one, Bool.or_false, Bool.false_or, Bool.or_self, Bool.or_true])
    exact ⟨0, by simp⟩
  rintro i hi
  unfold clkA
  by_cases h : i < rs.length
  · have hop := rd_at h
    have hl2 := rd_len rs
    (simp -dsimp only [↓z_y_seq, ↓z_y_region, ↓z_oy_plain, ↓z_yo_binOp, ↓z_binOp, ↓evW_tmp, ↓lkW_cons, ↓reduceIte, Nat.reduceEqDiff, ↓z_bn_lss, ↓z_put, Nat.reduceLT, ↓z_oy_nil, ↓z_seq_nrm, ↓z_y_cond, ↓z_cnd, ↓z_gdt, ↓z_y_skip, ↓z_y_block, ↓z_yo_indexAddr, ↓z_indexAddr, ↓y_ty22, ↓z_elTy_sl, ↓y_sz29, ↓z_ix_sl, ↓z_yo_load, ↓z_load, ↓y_ty29, ↓z_agTy_st, ↓loadW_rop, ↓z_rd_t, hl2, ↓z_yo_alloc, ↓z_alloc, ↓y_zr29, ↓z_new, ↓z_nm_cons, ↓z_nmC_cons, ↓z_mn'_int, ↓z_nmC_nil, and_self, ↓z_nm_nil, ↓z_pg_cons, ↓z_mn_agg, ↓z_mn_rop, ↓z_mn_bool, ↓z_mn_int, ↓z_mn_sl, ↓z_mn_yld, ↓z_pg_nil, ↓z_yo_store, ↓z_store, ↓z_cl_agg, ↓z_store_ptr, ↓lkoW_cons, Nat.zero_add, List.length_cons, List.length_nil, Nat.reduceAdd, Nat.reduceLeDiff, ↓spsW_cons, ↓drW_cons, reduceCtorEq, Nat.reduceSub, ↓drW_nil, ↓z_cat_nil_r, ↓z_so_cons, ↓z_put_none, ↓z_yo_fieldAddr, ↓z_fieldAddr, ↓y_fl24x0, ↓y_sz3, ne_eq, not_false_eq_true, ↓z_fa_rop, ↓y_ty3, ↓z_agTy_int, ↓z_rd_f, ↓nthW_cons, ↓y_fl29x0, ↓z_fa_ptr, ↓loadW_ptr, ↓z_yo_callb, ↓z_callb, ↓z_evL_cons, ↓z_evL_nil, ↓z_max, ↓z_yo_callv, ↓evW_func, ↓z_cy_fn, ↓z_fun0, ↓z_coeL_cons, ↓z_coe_int, ↓z_coeL_nil, true_and, z_sub, List.length_take, List.length_drop, ↓z_y_exit, ↓z_seq_ext, ↓z_lp_ext, ↓z_blk_ext, ↓z_end_nrm, List.length_map, List.cons.injEq, D.int.injEq, and_true, z_ite]); (try simp only [Int.toNat_natCast])
    refine ⟨fun _ => ⟨by omega, by omega, by omega, by omega, ?_⟩, fun h => by omega⟩
    rw [hop]
    (simp -dsimp only [↓nthW_cons, ↓reduceIte, ↓z_bn_sub, ↓wrW_i64, inR_i64, Int.reduceNeg, ↓z_mx_max, ↓z_mx_nil, ↓z_coe_int, true_and]); (try simp only [Int.toNat_natCast, Nat.mul_one, Bool.or_false, Bool.false_or, Bool.or_self, Bool.or_true])
    have hr := c4 _ (List.getElem_mem h)
    have hdif : difI x rs[i] = max (x - rs[i].1) (rs[i].1 - x) := rfl
    have hd0 : 0 ≤ difI x rs[i] ∧ difI x rs[i] ≤ 3600000000 := by rw [hdif]; omega
    have rl := pLo_rng (r := rate) (s := difI x rs[i]) c1 hd0.1
    have rh := pHi_rng (r := rate) (s := difI x rs[i]) c1 c2 hd0.1
    refine ⟨by omega, by omega, ?_⟩
    rw [← hdif]
    refine call_fn (fn_passed G rate _ c1 c2 hd0.1 hd0.2) fun _ => ?_
    (simp -dsimp only [↓z_put, Nat.reduceLT, ↓z_oy_plain, ↓z_yo_move, ↓z_move, ↓evW_tmp, ↓lkW_cons, ↓reduceIte, ↓z_yo_extract, ↓z_extract, ↓z_ex, ↓nthW_cons, Nat.reduceEqDiff, reduceCtorEq, Nat.reduceSub, ↓z_yo_assign, ↓z_assign, ↓z_oy_nil, ↓z_seq_nrm, ↓z_y_seq, ↓z_y_region, ↓z_yo_fieldAddr, ↓z_fieldAddr, ↓y_fl29x1, ↓y_sz27, ne_eq, not_false_eq_true, ↓z_fa_ptr, ↓y_fl27x0, ↓y_sz3, ↓z_yo_load, ↓z_load, ↓y_ty3, ↓z_agTy_int, ↓loadW_ptr, ↓lkoW_cons, ↓z_rd_f, Nat.zero_add, Nat.reduceAdd, ↓z_yo_binOp, ↓z_binOp, ↓z_bn_add, ↓wrW_i64, inR_i64, Int.reduceNeg, ↓y_fl27x1, ↓z_yo_build, ↓z_build, ↓y_ty27, ↓z_blTy_st, ↓y_zr27, ↓z_bld_cons, ↓z_cl_int, List.length_cons, List.length_nil, Nat.reduceLeDiff, ↓spsW_cons, ↓drW_cons, ↓catW_cons, ↓catW_nil, ↓drW_nil, ↓z_cat_nil_r, ↓z_bld_nil, ↓z_yo_alloc, ↓z_alloc, ↓z_new, ↓z_nm_cons, ↓z_nmC_cons, ↓z_mn'_int, ↓z_nmC_nil, and_self, ↓z_nm_nil, ↓z_pg_cons, ↓z_mn_oag, ↓z_mnL_int, ↓z_mnL_nil, ↓z_mn_int, ↓z_mn_ptr, ↓z_mn_tup, ↓z_mn_rop, ↓z_mn_agg, ↓z_mn_bool, ↓z_mn_sl, ↓z_mn_yld, ↓z_pg_nil, ↓z_yo_store, ↓z_store, ↓z_cl_oag, ↓z_store_ptr, ↓z_so_cons, ↓z_put_none, ↓loadW_rop, ↓y_fl29x0, ↓z_bn_lss, ↓z_y_cond, ↓z_cnd, ↓z_gdt, ↓z_bn_sub, ↓z_bn_eql, ↓z_agTy_st, ↓z_rd_t, ↓z_sub_c, ↓z_sub_nil, ↓z_yo_callv, ↓z_evL_cons, ↓z_evL_nil, ↓z_cy_yld, true_and, ↓z_y_skip, z_ite])
    have hys : (rs.map (wDs rate x))[i]? = some [.agg [.int .i64 (wLo rate x rs[i]), .int .i64 (wHi rate x rs[i])]] := by
      rw [List.getElem?_map, List.getElem?_eq_getElem h]; rfl
    refine ⟨by omega, by omega, rfl, fun g1 => ⟨by omega, by omega, rfl, fun g2 => by omega, fun g2 => ?_⟩, fun g1 => ⟨fun g2 => ⟨by omega, ?_⟩, fun g2 => ?_⟩⟩
    · have e1 : wLo rate x rs[i] = rs[i].2.1 - pHi rate (difI x rs[i]) := by unfold wLo; rw [if_neg (by omega)]
      have e2 : wHi rate x rs[i] = rs[i].2.2 - pLo rate (difI x rs[i]) := by unfold wHi; rw [if_pos g1]
      rw [← e1, ← e2]
      refine yld_mk i [(12, .int .i64 i), (11, .int .i64 rs.length), (10, .sl 3 rs.length (List.flatMap rdC rs)), (0, .yld l), (1, .rop ([.int .i64 rate, .sl 3 rs.length (List.flatMap rdC rs)]) 0), (2, .rop [.int .i64 x] 0)] (by simp [flA, flS, ogD]) (by (simp -dsimp only [↓lkoW_cons, Nat.zero_add, Nat.reduceEqDiff, ↓reduceIte, reduceCtorEq]); (try simp only [Int.toNat_natCast, Nat.mul_one, Bool.or_false, Bool.false_or, Bool.or_self, Bool.or_true])) hys (by omega) ?_
      (simp -dsimp only [↓z_wkE_cons, ↓lkW_cons, Nat.reduceEqDiff, ↓reduceIte, reduceCtorEq, ↓z_wkE_nil, and_self, ↓z_put, Nat.reduceLT, ↓z_oy_plain, ↓z_yo_unOp, ↓z_unOp, ↓evW_tmp, ↓z_un_not, ↓z_oy_nil, ↓z_seq_nrm, ↓z_y_cond, ↓z_cnd, ↓z_gnt, ↓z_gtf, ↓z_y_skip, ↓z_blk_nrm, ↓z_y_region, ↓z_yo_binOp, ↓z_binOp, ↓evW_const, ↓constW_int, inR_i64, Int.reduceNeg, Int.reduceLE, ↓z_bn_add, ↓wrW_i64, ↓z_yo_move, ↓z_move, ↓z_lp_nrm, ↓z_wk, D.int.injEq, true_and, and_true, ↓z_wkO_cons, ↓lkoW_cons, List.cons.injEq, ↓z_wkO_nil]); (try simp only [Int.toNat_natCast, Nat.mul_one, Bool.or_false, Bool.false_or, Bool.or_self, Bool.or_true])
      exact ⟨by omega, i + 1, by omega, by omega, by omega⟩
    · have e1 : wLo rate x rs[i] = rs[i].2.1 - pHi rate (difI x rs[i]) := by unfold wLo; rw [if_neg (by omega)]
      have e2 : wHi rate x rs[i] = rs[i].2.2 + pHi rate (difI x rs[i]) := by unfold wHi; rw [if_neg g1]
      rw [← e1, ← e2]
      refine yld_mk i [(12, .int .i64 i), (11, .int .i64 rs.length), (10, .sl 3 rs.length (List.flatMap rdC rs)), (0, .yld l), (1, .rop ([.int .i64 rate, .sl 3 rs.length (List.flatMap rdC rs)]) 0), (2, .rop [.int .i64 x] 0)] (by simp [flA, flS, ogD]) (by (simp -dsimp only [↓lkoW_cons, Nat.zero_add, Nat.reduceEqDiff, ↓reduceIte, reduceCtorEq]); (try simp only [Int.toNat_natCast, Nat.mul_one, Bool.or_false, Bool.false_or, Bool.or_self, Bool.or_true])) hys (by omega) ?_
      (simp -dsimp only [↓z_wkE_cons, ↓lkW_cons, Nat.reduceEqDiff, ↓reduceIte, reduceCtorEq, ↓z_wkE_nil, and_self, ↓z_put, Nat.reduceLT, ↓z_oy_plain, ↓z_yo_unOp, ↓z_unOp, ↓evW_tmp, ↓z_un_not, ↓z_oy_nil, ↓z_seq_nrm, ↓z_y_cond, ↓z_cnd, ↓z_gnt, ↓z_gtf, ↓z_y_skip, ↓z_blk_nrm, ↓z_y_region, ↓z_yo_binOp, ↓z_binOp, ↓evW_const, ↓constW_int, inR_i64, Int.reduceNeg, Int.reduceLE, ↓z_bn_add, ↓wrW_i64, ↓z_yo_move, ↓z_move, ↓z_lp_nrm, ↓z_wk, D.int.injEq, true_and, and_true, ↓z_wkO_cons, ↓lkoW_cons, List.cons.injEq, ↓z_wkO_nil]); (try simp only [Int.toNat_natCast, Nat.mul_one, Bool.or_false, Bool.false_or, Bool.or_self, Bool.or_true])
      exact ⟨by omega, i + 1, by omega, by omega, by omega⟩
    · have e1 : wLo rate x rs[i] = rs[i].2.1 + pLo rate (difI x rs[i]) := by unfold wLo; rw [if_pos (by omega)]
      have e2 : wHi rate x rs[i] = rs[i].2.2 + pHi rate (difI x rs[i]) := by unfold wHi; rw [if_neg g1]
      rw [← e1, ← e2]
      refine yld_mk i [(12, .int .i64 i), (11, .int .i64 rs.length), (10, .sl 3 rs.length (List.flatMap rdC rs)), (0, .yld l), (1, .rop ([.int .i64 rate, .sl 3 rs.length (List.flatMap rdC rs)]) 0), (2, .rop [.int .i64 x] 0)] (by simp [flA, flS, ogD]) (by (simp -dsimp only [↓lkoW_cons, Nat.zero_add, Nat.reduceEqDiff, ↓reduceIte, reduceCtorEq]); (try simp only [Int.toNat_natCast, Nat.mul_one, Bool.or_false, Bool.false_or, Bool.or_self, Bool.or_true])) hys (by omega) ?_
      (simp -dsimp only [↓z_wkE_cons, ↓lkW_cons, Nat.reduceEqDiff, ↓reduceIte, reduceCtorEq, ↓z_wkE_nil, and_self, ↓z_put, Nat.reduceLT, ↓z_oy_plain, ↓z_yo_unOp, ↓z_unOp, ↓evW_tmp, ↓z_un_not, ↓z_oy_nil, ↓z_seq_nrm, ↓z_y_cond, ↓z_cnd, ↓z_gnt, ↓z_gtf, ↓z_y_skip, ↓z_blk_nrm, ↓z_y_region, ↓z_yo_binOp, ↓z_binOp, ↓evW_const, ↓constW_int, inR_i64, Int.reduceNeg, Int.reduceLE, ↓z_bn_add, ↓wrW_i64, ↓z_yo_move, ↓z_move, ↓z_lp_nrm, ↓z_wk, D.int.injEq, true_and, and_true, ↓z_wkO_cons, ↓lkoW_cons, List.cons.injEq, ↓z_wkO_nil]); (try simp only [Int.toNat_natCast, Nat.mul_one, Bool.or_false, Bool.false_or, Bool.or_self, Bool.or_true])
      exact ⟨by omega, i + 1, by omega, by omega, by omega⟩
  · (simp -dsimp only [↓z_y_seq, ↓z_y_region, ↓z_oy_plain, ↓z_yo_binOp, ↓z_binOp, ↓evW_tmp, ↓lkW_cons, ↓reduceIte, Nat.reduceEqDiff, ↓z_bn_lss, ↓z_put, Nat.reduceLT, ↓z_oy_nil, ↓z_seq_nrm, ↓z_y_cond, ↓z_cnd, ↓z_gdt, ↓z_y_skip, ↓z_y_block, ↓z_yo_indexAddr, ↓z_indexAddr, ↓y_ty22, ↓z_elTy_sl, ↓y_sz29, ↓z_ix_sl, ↓z_yo_load, ↓z_load, ↓y_ty29, ↓z_agTy_st, ↓loadW_rop, ↓z_rd_t, ↓z_yo_alloc, ↓z_alloc, ↓y_zr29, ↓z_new, ↓z_nm_cons, ↓z_nmC_cons, ↓z_mn'_int, ↓z_nmC_nil, and_self, ↓z_nm_nil, ↓z_pg_cons, ↓z_mn_agg, ↓z_mn_rop, ↓z_mn_bool, ↓z_mn_int, ↓z_mn_sl, ↓z_mn_yld, ↓z_pg_nil, ↓z_yo_store, ↓z_store, ↓z_cl_agg, ↓z_store_ptr, ↓lkoW_cons, Nat.zero_add, List.length_cons, List.length_nil, Nat.reduceAdd, Nat.reduceLeDiff, ↓spsW_cons, ↓drW_cons, reduceCtorEq, Nat.reduceSub, ↓drW_nil, ↓z_cat_nil_r, ↓z_so_cons, ↓z_put_none, ↓z_yo_fieldAddr, ↓z_fieldAddr, ↓y_fl24x0, ↓y_sz3, ne_eq, not_false_eq_true, ↓z_fa_rop, ↓y_ty3, ↓z_agTy_int, ↓z_rd_f, ↓nthW_cons, ↓y_fl29x0, ↓z_fa_ptr, ↓loadW_ptr, ↓z_yo_callb, ↓z_callb, ↓z_evL_cons, ↓z_evL_nil, ↓z_max, ↓z_yo_callv, ↓evW_func, ↓z_cy_fn, ↓z_fun0, ↓z_coeL_cons, ↓z_coe_int, ↓z_coeL_nil, true_and, z_sub, List.length_take, List.length_drop, ↓z_y_exit, ↓z_seq_ext, ↓z_lp_ext, ↓z_blk_ext, ↓z_end_nrm, List.length_map, List.cons.injEq, D.int.injEq, and_true, z_ite]); (try simp only [Int.toNat_natCast])
    exact ⟨fun h => by omega, fun _ => by omega⟩
def loB (rate x : Int) (rs : List Rd) : Int := (rs.map (wLo rate x)).foldl max 0
def hiB (rate x : Int) (rs : List Rd) : Int := (rs.map (wHi rate x)).foldl min 3600000000
def losL (rate x : Int) (rs : List Rd) (i : Nat) : List Int := 0 :: (rs.take i).map (wLo rate x)
def hisL (rate x : Int) (rs : List Rd) (i : Nat) : List Int := 3600000000 :: (rs.take i).map (wHi rate x)
theorem losL_len {rate x : Int} {rs : List Rd} {i : Nat} (h : i ≤ rs.length) : (losL rate x rs i).length = i + 1 := by simp [losL]; omega
theorem hisL_len {rate x : Int} {rs : List Rd} {i : Nat} (h : i ≤ rs.length) : (hisL rate x rs i).length = i + 1 := by simp [hisL]; omega
theorem losL_s {rate x : Int} {rs : List Rd} {i : Nat} (h : i < rs.length) : losL rate x rs (i + 1) = losL rate x rs i ++ [wLo rate x rs[i]] := by
  unfold losL; rw [show rs.take (i + 1) = rs.take i ++ [rs[i]] by simp, List.map_append]; rfl
theorem hisL_s {rate x : Int} {rs : List Rd} {i : Nat} (h : i < rs.length) : hisL rate x rs (i + 1) = hisL rate x rs i ++ [wHi rate x rs[i]] := by
  unfold hisL; rw [show rs.take (i + 1) = rs.take i ++ [rs[i]] by simp, List.map_append]; rfl
theorem losL_max (rate x : Int) (rs : List Rd) : maxL (losL rate x rs rs.length) = loB rate x rs := by
  unfold maxL maxK losL loB
  rw [List.take_length, List.take_length]
  simp
theorem hisL_min (rate x : Int) (rs : List Rd) : minL (hisL rate x rs rs.length) = hiB rate x rs := by
  unfold minL minK hisL hiB
  rw [List.take_length, List.take_length]
  simp
def bdI (rate x : Int) (rs : List Rd) : Nat → St
  | 0 => ⟨29, 3, [], [(1000001, [.ptr 1 0, .ptr 2 0]), (1, [.slx 1 1 [.int .i64 0]]), (2, [.slx 1 1 [.int .i64 3600000000]])]⟩
  | i + 1 => ⟨29, 6, [], [(1000001, [.ptr 1 0, .ptr 2 0]), (1, [.osl 4 1 (i + 2)]), (2, [.osl 5 1 (i + 2)]), (4, (losL rate x rs (i + 1)).map (D.int .i64)), (5, (hisL rate x rs (i + 1)).map (D.int .i64))]⟩
theorem bdI0 {rate x : Int} {rs : List Rd} : bdI rate x rs 0 = ⟨29, 3, [], [(1000001, [.ptr 1 0, .ptr 2 0]), (1, [.slx 1 1 [.int .i64 0]]), (2, [.slx 1 1 [.int .i64 3600000000]])]⟩ := rfl
theorem bdIs {rate x : Int} {rs : List Rd} {i : Nat} : bdI rate x rs (i + 1) = ⟨29, 6, [], [(1000001, [.ptr 1 0, .ptr 2 0]), (1, [.osl 4 1 (i + 2)]), (2, [.osl 5 1 (i + 2)]), (4, (losL rate x rs (i + 1)).map (D.int .i64)), (5, (hisL rate x rs (i + 1)).map (D.int .i64))]⟩ := rfl
set_option maxRecDepth 100000 in
set_option maxHeartbeats 8000000 in
theorem fn_bounds (G : Glob) (rate x : Int) (rs : List Rd) (hc : chkC rate rs = 0) (hx : instP x) : Fn G Try.prog 38 [.agg (clkA rate rs), .int .i64 x] (.tup [.int .i64 (loB rate x rs), .int .i64 (hiB rate x rs)]) := by
  obtain ⟨c1, c2, c3, c4, c5⟩ := chkC_ok hc
  have hY := yd_ranges G rate x rs hc hx
  have hR := fn_ranges G rate x rs
  unfold clkA at hY hR ⊢
  refine Fn.mkR (c := _) Try.func38 rfl rfl Try.ntmps38 Try.results38 rfl ?_
  (simp -dsimp only [↓z_bodyR, List.length_cons, List.length_nil, Nat.zero_add, Nat.reduceAdd, Nat.reduceLeDiff, wfL, ↓z_r_seq, ↓z_r_region, ↓z_ops_plain, ↓z_box, ↓evW_tmp, ↓z_lk_env, ↓reduceIte, ↓z_cl_agg, ↓z_nmC_cons, ↓z_mn'_int, ↓z_mn'_sl, ↓z_nmC_nil, and_self, ↓z_new, ↓z_nm_nil, Nat.reduceLT, ↓z_pg_env, ↓z_mn_agg, ↓z_mn_int, ↓z_pg_env0, ↓z_put, ↓z_assign, ↓evW_const, ↓constW_int, inR_i64, Int.reduceNeg, Int.reduceLE, ↓z_ops_nil, ↓z_seq_nrm, ↓z_buildSlice, ↓y_ty99, ↓z_slTy, ↓y_sz3, Nat.mul_one, maxLen_lit, ↓y_zr3, ↓z_repL_s, ↓z_repL_0, ↓z_cat_nil_r, ↓z_bld_cons, ↓z_cl_int, ↓spsW_cons, ↓drW_cons, reduceCtorEq, ↓drW_nil, ↓z_bld_nil, ↓z_allP_cons, ↓z_isP_int, ↓z_allP_nil, ↓z_alloc, ↓y_zr99, ↓z_nm_cons, ↓z_pg_cons, ↓z_mn_slx, ↓z_mn_ptr, ↓z_pg_nil, ↓z_mn'_nils, Nat.reduceEqDiff, ↓z_store, ↓lkW_cons, ↓y_sz99, ↓z_cl_slx, ↓z_store_ptr, ↓lkoW_cons, ↓z_so_cons, ↓z_put_none, ↓z_load, ↓y_ty24, ↓y_sz24, ↓z_agTy_st, ↓loadW_ptr, ↓z_rd_t, ↓z_sub_c, ↓z_sub_nil, ↓z_move, ↓z_callv, ↓evW_func, ↓z_evL_cons, ↓z_evL_nil, ↓z_fun0, ↓z_coeL_cons, ↓z_coe_oag, ↓z_coeC_cons, ↓z_coeS_int, ↓z_coeS_sl, ↓z_coeC_nil, ↓z_coe_int, ↓z_coeL_nil, true_and])
  intro hd _
  refine call_fn hR fun _ => ?_
  (simp -dsimp only [↓z_put, Nat.reduceLT, ↓z_ops_nil, ↓z_seq_nrm, ↓z_r_block, ↓z_r_rng, ↓evW_tmp, ↓lkW_cons, ↓reduceIte, true_and])
  refine rng_mk _ [(6, .ptr 1 0), (7, .ptr 2 0)] (bdI rate x rs) hY (fun ds hds => by obtain ⟨r, _, rfl⟩ := List.mem_map.1 hds; rfl) (by simp) ?_ ?_ ?_
  · rw [bdI0]
    (simp -dsimp only [↓z_wkE_cons, ↓lkW_cons, Nat.reduceEqDiff, ↓reduceIte, Nat.zero_add, Nat.reduceAdd, ↓z_wkE_nil, and_self, ↓z_noO_cons, not_false_eq_true, reduceCtorEq, ↓z_noO_nil, ↓z_snd_cons, ↓z_snd_nil, ↓z_wkO_cons, ↓lkoW_cons, ↓z_wkO_nil]); (try simp only [Int.toNat_natCast, Nat.mul_one, Bool.or_false, Bool.false_or, Bool.or_self, Bool.or_true])
  · intro i ds hi
    rw [List.getElem?_map] at hi
    obtain ⟨r, hr, rfl⟩ := Option.map_eq_some_iff.1 hi
    obtain ⟨hil, rfl⟩ := List.getElem?_eq_some_iff.1 hr
    clear hi hr
    unfold wDs
    cases i with
    | zero =>
      rw [bdI0, bdIs]
      have e1 : losL rate x rs 1 = [0, wLo rate x rs[0]] := by rw [losL_s hil]; rfl
      have e2 : hisL rate x rs 1 = [3600000000, wHi rate x rs[0]] := by rw [hisL_s hil]; rfl
      (simp -dsimp only [wfL, ↓z_region, ↓z_ops_plain, ↓z_alloc, ↓y_zr27, ↓z_new, ↓z_par_cons, ↓z_par_nil, ↓z_put, Nat.reduceLT, ↓z_store, ↓evW_tmp, ↓lkW_cons, ↓reduceIte, Nat.reduceEqDiff, ↓y_sz27, ↓z_store_ptr, ↓lkoW_cons, Nat.zero_add, List.length_cons, List.length_nil, Nat.reduceAdd, Nat.reduceLeDiff, ↓spsW_cons, ↓drW_cons, reduceCtorEq, Nat.reduceSub, ↓drW_nil, ↓z_cat_nil_r, ↓z_so_cons, ↓z_put_none, ↓z_ops_nil, ↓z_onlyN, ↓z_block, ↓z_region_d, ↓y_mix, true_and, ↓z_pg_cons, ↓z_mn_agg, ↓z_cl_agg, ↓z_nm_cons, ↓z_nmC_cons, ↓z_mn'_ptr, not_false_eq_true, ↓z_nmC_nil, and_self, ↓z_mn'_slx, ↓z_nm_nil, ↓z_zp_cons, ↓z_zp_nil, ↓z_mn_ptr, ↓z_pg_nil])
      intro _
      refine rgn_c 9 [4] [15, 19] [0, 4] [(8, .ptr 3 0), (7, .ptr 2 0), (6, .ptr 1 0)] [] [(3, [.int .i64 (wLo rate x rs[0]), .int .i64 (wHi rate x rs[0])]), (2, [.slx 1 1 [.int .i64 3600000000]])] (by decide +kernel) ?_
      (simp -dsimp only [↓z_wkE_cons, ↓lkW_cons, ↓reduceIte, Nat.reduceEqDiff, ↓z_wkE_nil, and_self, ↓z_wkO_cons, ↓lkoW_cons, ↓z_wkO_nil, ↓z_nmTE_cons, ↓z_nmT_ptr, not_false_eq_true, ↓z_nmT_nil, ↓z_nmTE_nil, ↓z_noEs_cons, ↓z_noE_cons, ↓z_noE_nil, ↓z_noEs_nil, ↓z_inE_nil, Nat.reduceAdd, List.take_succ_cons, List.take_zero, ↓z_drc_load, ↓z_nbW_cons, ↓z_putF_some, ↓z_dstP_some, Nat.reduceLT, ↓z_drc_fieldAddr, Nat.zero_add, reduceCtorEq, ↓z_nbW_nil, ↓z_drcS, ↓z_grd_none, ↓z_withE, ↓z_rd_tmp, ↓z_rd_nil, ↓z_ap_cons, ↓z_ap_nil, ↓z_apO_cons, ↓z_apO_nil, ↓z_fieldAddr, ↓evW_tmp, ↓y_fl27x0, ↓y_sz3, ne_eq, ↓z_fa_ptr, and_true, true_and, ↓z_exD_all, ↓z_exD_all2, ↓z_exD_eq, ↓z_put, ↓z_drcK, ↓z_load, ↓y_ty3, ↓z_agTy_int, ↓loadW_ptr, ↓z_rd_f, ↓nthW_cons, ↓z_nmT_int, ↓z_drc_buildSlice, ↓z_mpO_cons, ↓z_mpO_nil, ↓z_ap_app, ↓z_buildSlice, ↓y_ty99, ↓z_slTy, Nat.mul_one, Nat.reduceLeDiff, maxLen_lit, ↓y_zr3, List.length_cons, List.length_nil, ↓z_repL_s, ↓z_repL_0, ↓z_cat_nil_r, ↓z_bld_cons, ↓z_cl_int, ↓spsW_cons, ↓drW_cons, ↓drW_nil, ↓z_bld_nil, ↓z_allP_cons, ↓z_isP_int, ↓z_allP_nil, ↓z_nmT_slx, ↓z_drc_callb_app, ↓y_sz99, ↓z_agTy_sl, ↓y_fl27x1, Nat.reduceSub, ↓z_drc_nil])
      refine ch_mk [(6, .ptr 1 0)] (.slx 1 1 [.int .i64 0]) none 4 [(3, [.int .i64 (wLo rate x rs[0]), .int .i64 (wHi rate x rs[0])]), (1000001, [.ptr 1 0, .ptr 2 0]), (1, [.slx 1 1 [.int .i64 0]]), (2, [.slx 1 1 [.int .i64 3600000000]])] [(15, .slx 1 1 [.int .i64 0])] rfl rfl (by simp) (by simp [ebW]) rfl (fun E => ?_) ?_
      · (simp -dsimp only [↓z_ap_cons, ↓z_ap_nil, ↓z_load, ↓evW_tmp, ↓lkW_cons, ↓reduceIte, ↓y_ty99, ↓y_sz99, ↓z_agTy_sl, ↓loadW_ptr, ↓lkoW_cons, Nat.reduceEqDiff, ↓z_rd_f, ↓nthW_cons, Nat.reduceAdd, true_and]); (try simp only [Int.toNat_natCast, Nat.mul_one, Bool.or_false, Bool.false_or, Bool.or_self, Bool.or_true])
        rfl
      (simp -dsimp only [↓z_wkE_cons, ↓lkW_cons, Nat.reduceEqDiff, ↓reduceIte, ↓z_wkE_nil, and_self, ↓z_inE_cons, ↓z_memW_cons, ↓z_inE_nil, ↓z_wkO_cons, ↓lkoW_cons, ↓z_wkO_nil, true_and])
      refine ch_mk [(18, .slx 1 1 [.int .i64 (wLo rate x rs[0])])] (.osl 4 1 2) (some 4) 5 [(4, [.int .i64 0, .int .i64 (wLo rate x rs[0])]), (3, [.int .i64 (wLo rate x rs[0]), .int .i64 (wHi rate x rs[0])]), (1000001, [.ptr 1 0, .ptr 2 0]), (1, [.slx 1 1 [.int .i64 0]]), (2, [.slx 1 1 [.int .i64 3600000000]])] [(19, .osl 4 1 2)] rfl rfl (by simp) (by simp [ebW]) rfl (fun E => ?_) ?_
      · (simp -dsimp only [↓z_ap_cons, ↓z_ap_nil, ↓z_callb, ↓z_evL_cons, ↓evW_tmp, ↓lkW_cons, ↓reduceIte, Nat.reduceEqDiff, ↓z_evL_nil, ↓z_append, ↓y_ty99, ↓z_slTy, ↓z_nint_sl, ↓y_sz3, ↓y_by3, ↓y_zr3, List.length_cons, List.length_nil, Nat.zero_add, ↓z_src_slx, ↓z_app_slx, ↓z_room, Nat.reduceAdd, Nat.reduceMul, Nat.reduceLeDiff, maxLen_lit, reduceCtorEq, ↓z_new, ↓z_nm_cons, ↓z_nmC_cons, ↓z_mn'_int, ↓z_nmC_nil, and_self, ↓z_mn'_ptr, not_false_eq_true, ↓z_mn'_slx, ↓z_nm_nil, Nat.reduceLT, ↓z_pg_cons, ↓z_mn_slx, D.osl.injEq, and_false, false_and, true_and, or_false, false_or]); (try simp only [Int.toNat_natCast, Nat.mul_one, Bool.or_false, Bool.false_or, Bool.or_self, Bool.or_true])
        simp [pgW, pE, purge, mn]
      (simp -dsimp only [↓z_wkE_cons, ↓lkW_cons, Nat.reduceEqDiff, ↓reduceIte, ↓z_wkE_nil, and_self, ↓z_inE_cons, ↓z_memW_cons, ↓z_inE_nil, ↓z_wkO_cons, ↓lkoW_cons, ↓z_wkO_nil, true_and]); (try simp only [Int.toNat_natCast, Nat.mul_one, Bool.or_false, Bool.false_or, Bool.or_self, Bool.or_true])
      refine ch_end ?_
      (simp -dsimp only [↓z_ap_cons, ↓z_ap_nil, List.drop_succ_cons, List.drop_zero, ↓z_wkO_cons, Nat.zero_add, ↓z_wkO_nil, and_true, ↓z_ops_plain, ↓z_callb, ↓z_evL_cons, ↓evW_tmp, ↓lkW_cons, Nat.reduceEqDiff, ↓reduceIte, ↓z_evL_nil, ↓z_append, ↓y_ty99, ↓z_slTy, ↓z_nint_sl, ↓y_sz3, ↓y_by3, ↓y_zr3, List.length_cons, List.length_nil, ↓z_src_slx, ↓z_app_slx, ↓z_room, Nat.reduceAdd, Nat.reduceMul, Nat.reduceLeDiff, maxLen_lit, reduceCtorEq, ↓z_new, ↓z_nm_cons, ↓z_nmC_cons, ↓z_mn'_int, ↓z_nmC_nil, and_self, ↓z_mn'_ptr, not_false_eq_true, ↓z_mn'_slx, ↓z_nm_nil, Nat.reduceLT, ↓z_pg_cons, ↓z_mn_osl, ↓z_mn_slx, ↓z_mn_int, ↓z_mn_ptr, ↓z_mn_any, ↓z_pg_nil, ↓z_put, ↓z_store, ↓y_sz99, ↓z_cl_osl, ↓z_store_ptr, ↓lkoW_cons, ↓spsW_cons, ↓drW_cons, ↓drW_nil, ↓z_cat_nil_r, ↓z_so_cons, ↓z_put_none, ↓z_ops_nil, ↓z_blk_nrm, ↓z_onlyN, List.cons.injEq, D.osl.injEq, and_false, false_and, true_and, ↓z_cl_sl, or_false, false_or]); (try simp only [Int.toNat_natCast, Nat.mul_one, Bool.or_false, Bool.false_or, Bool.or_self, Bool.or_true])
      rw [e1, e2]
      exact ⟨rfl, rfl⟩
    | succ i =>
      rw [bdIs, bdIs]
      have e1 : losL rate x rs (i + 2) = losL rate x rs (i + 1) ++ [wLo rate x rs[i + 1]] := losL_s hil
      have e2 : hisL rate x rs (i + 2) = hisL rate x rs (i + 1) ++ [wHi rate x rs[i + 1]] := hisL_s hil
      have l1 := losL_len (rate := rate) (x := x) (rs := rs) (i := i + 1) (by omega)
      have l2 := hisL_len (rate := rate) (x := x) (rs := rs) (i := i + 1) (by omega)
      (simp -dsimp only [wfL, ↓z_region, ↓z_ops_plain, ↓z_alloc, ↓y_zr27, ↓z_new, ↓z_par_cons, ↓z_par_nil, ↓z_put, Nat.reduceLT, ↓z_store, ↓evW_tmp, ↓lkW_cons, ↓reduceIte, Nat.reduceEqDiff, ↓y_sz27, ↓z_store_ptr, ↓lkoW_cons, Nat.zero_add, List.length_cons, List.length_nil, Nat.reduceAdd, Nat.reduceLeDiff, ↓spsW_cons, ↓drW_cons, reduceCtorEq, Nat.reduceSub, ↓drW_nil, ↓z_cat_nil_r, ↓z_so_cons, ↓z_put_none, ↓z_ops_nil, ↓z_onlyN, ↓z_block, ↓z_region_d, ↓y_mix, true_and, ↓z_pg_cons, ↓z_mn_agg, ↓z_cl_agg, ↓z_nm_cons, ↓z_nmC_cons, ↓z_mn'_ptr, not_false_eq_true, ↓z_nmC_nil, and_self, ↓z_mn'_osl, ↓z_nmC_int, ↓z_nm_nil, ↓z_zp_cons, ↓z_zp_nil, ↓z_mn_ptr, ↓z_pg_nil])
      intro _
      refine rgn_c 9 [4] [15, 19] [0, 4] [(8, .ptr 6 0), (7, .ptr 2 0), (6, .ptr 1 0)] [] [(6, [.int .i64 (wLo rate x rs[i + 1]), .int .i64 (wHi rate x rs[i + 1])]), (2, [.osl 5 1 (i + 2)])] (by decide +kernel) ?_
      (simp -dsimp only [↓z_wkE_cons, ↓lkW_cons, ↓reduceIte, Nat.reduceEqDiff, ↓z_wkE_nil, and_self, ↓z_wkO_cons, ↓lkoW_cons, ↓z_wkO_nil, ↓z_nmTE_cons, ↓z_nmT_ptr, not_false_eq_true, ↓z_nmT_nil, ↓z_nmTE_nil, ↓z_noEs_cons, ↓z_noE_cons, ↓z_noE_nil, ↓z_noEs_nil, ↓z_inE_nil, Nat.reduceAdd, List.take_succ_cons, List.take_zero, ↓z_drc_load, ↓z_nbW_cons, ↓z_putF_some, ↓z_dstP_some, Nat.reduceLT, ↓z_drc_fieldAddr, Nat.zero_add, reduceCtorEq, ↓z_nbW_nil, ↓z_drcS, ↓z_grd_none, ↓z_withE, ↓z_rd_tmp, ↓z_rd_nil, ↓z_ap_cons, ↓z_ap_nil, ↓z_apO_cons, ↓z_apO_nil, ↓z_fieldAddr, ↓evW_tmp, ↓y_fl27x0, ↓y_sz3, ne_eq, ↓z_fa_ptr, and_true, true_and, ↓z_exD_all, ↓z_exD_all2, ↓z_exD_eq, ↓z_put, ↓z_drcK, ↓z_load, ↓y_ty3, ↓z_agTy_int, ↓loadW_ptr, ↓z_rd_f, ↓nthW_cons, ↓z_nmT_int, ↓z_drc_buildSlice, ↓z_mpO_cons, ↓z_mpO_nil, ↓z_ap_app, ↓z_buildSlice, ↓y_ty99, ↓z_slTy, Nat.mul_one, Nat.reduceLeDiff, maxLen_lit, ↓y_zr3, List.length_cons, List.length_nil, ↓z_repL_s, ↓z_repL_0, ↓z_cat_nil_r, ↓z_bld_cons, ↓z_cl_int, ↓spsW_cons, ↓drW_cons, ↓drW_nil, ↓z_bld_nil, ↓z_allP_cons, ↓z_isP_int, ↓z_allP_nil, ↓z_nmT_slx, ↓z_drc_callb_app, ↓y_sz99, ↓z_agTy_sl, ↓z_nmT_osl, ↓y_fl27x1, Nat.reduceSub, ↓z_drc_nil])
      refine ch_mk [(6, .ptr 1 0)] (.osl 4 1 (i + 2)) none 7 [(6, [.int .i64 (wLo rate x rs[i + 1]), .int .i64 (wHi rate x rs[i + 1])]), (1000001, [.ptr 1 0, .ptr 2 0]), (1, [.osl 4 1 (i + 2)]), (2, [.osl 5 1 (i + 2)]), (4, (losL rate x rs (i + 1)).map (D.int .i64)), (5, (hisL rate x rs (i + 1)).map (D.int .i64))] [(15, .osl 4 1 (i + 2))] rfl rfl (by simp) (by simp [ebW]) rfl (fun E => ?_) ?_
      · (simp -dsimp only [↓z_ap_cons, ↓z_ap_nil, ↓z_load, ↓evW_tmp, ↓lkW_cons, ↓reduceIte, ↓y_ty99, ↓y_sz99, ↓z_agTy_sl, ↓loadW_ptr, ↓lkoW_cons, Nat.reduceEqDiff, ↓z_rd_f, ↓nthW_cons, Nat.reduceAdd, true_and]); (try simp only [Int.toNat_natCast, Nat.mul_one, Bool.or_false, Bool.false_or, Bool.or_self, Bool.or_true])
        rfl
      (simp -dsimp only [↓z_wkE_cons, ↓lkW_cons, Nat.reduceEqDiff, ↓reduceIte, ↓z_wkE_nil, and_self, ↓z_inE_cons, ↓z_memW_cons, ↓z_inE_nil, ↓z_wkO_cons, ↓lkoW_cons, ↓z_wkO_nil, true_and])
      refine ch_mk [(18, .slx 1 1 [.int .i64 (wLo rate x rs[i + 1])])] (.osl 4 1 (i + 3)) (some 4) 7 [(6, [.int .i64 (wLo rate x rs[i + 1]), .int .i64 (wHi rate x rs[i + 1])]), (1000001, [.ptr 1 0, .ptr 2 0]), (1, [.any]), (2, [.osl 5 1 (i + 2)]), (4, (losL rate x rs (i + 1)).map (D.int .i64) ++ [.int .i64 (wLo rate x rs[i + 1])]), (5, (hisL rate x rs (i + 1)).map (D.int .i64))] [(19, .osl 4 1 (i + 3))] rfl rfl (by simp) (by simp [ebW]) rfl (fun E => ?_) ?_
      · (simp -dsimp only [↓z_ap_cons, ↓z_ap_nil, ↓z_callb, ↓z_evL_cons, ↓evW_tmp, ↓lkW_cons, ↓reduceIte, Nat.reduceEqDiff, ↓z_evL_nil, ↓z_append, ↓y_ty99, ↓z_slTy, ↓z_nint_sl, ↓y_sz3, ↓y_by3, ↓y_zr3, List.length_cons, List.length_nil, Nat.zero_add, ↓z_src_slx, ↓z_app_osl, ↓lkoW_cons, List.length_map, l1, Nat.mul_one, ↓z_nmC_int, Nat.reduceLT, ↓z_room, maxLen_lit, Nat.reduceLeDiff, ↓z_pgo_cons, ↓z_nmC_cons, ↓z_mn'_int, ↓z_nmC_nil, and_self, ↓z_pgc_nm, ↓z_mn'_ptr, not_false_eq_true, ↓z_pgc_cons, ↓z_mn_osl, ↓z_mn'_osl, ↓z_pgo_nil, ↓z_pg_cons, ↓z_mn_slx, ↓z_so_cons, true_and]); (try simp only [Int.toNat_natCast, Nat.mul_one, Bool.or_false, Bool.false_or, Bool.or_self, Bool.or_true])
        exact ⟨by omega, by omega, by simp [pgW, pE, purge, mn]⟩
      (simp -dsimp only [↓z_wkE_cons, ↓lkW_cons, Nat.reduceEqDiff, ↓reduceIte, ↓z_wkE_nil, and_self, ↓z_inE_cons, ↓z_memW_cons, ↓z_inE_nil, ↓z_wkO_cons, ↓lkoW_cons, ↓z_wkO_nil, true_and]); (try simp only [Int.toNat_natCast, Nat.mul_one, Bool.or_false, Bool.false_or, Bool.or_self, Bool.or_true])
      refine ch_end ?_
      (simp -dsimp only [↓z_ap_cons, ↓z_ap_nil, List.drop_succ_cons, List.drop_zero, ↓z_wkO_cons, ↓z_wkO_nil, and_true, ↓z_ops_plain, ↓z_callb, ↓z_evL_cons, ↓evW_tmp, ↓lkW_cons, Nat.reduceEqDiff, ↓reduceIte, ↓z_evL_nil, ↓z_append, ↓y_ty99, ↓z_slTy, ↓z_nint_sl, ↓y_sz3, ↓y_by3, ↓y_zr3, List.length_cons, List.length_nil, Nat.zero_add, ↓z_src_slx, ↓z_app_osl, ↓lkoW_cons, List.length_map, l2, Nat.mul_one, ↓z_nmC_int, Nat.reduceLT, ↓z_room, maxLen_lit, Nat.reduceLeDiff, ↓z_pgo_cons, ↓z_nmC_cons, ↓z_mn'_int, ↓z_nmC_nil, and_self, ↓z_pgc_nm, ↓z_mn'_ptr, not_false_eq_true, ↓z_mn'_any, ↓z_pgc_cons, ↓z_mn_osl, ↓z_nmC_app, ↓z_pgo_nil, ↓z_pg_cons, ↓z_mn_slx, ↓z_mn_int, ↓z_mn_ptr, ↓z_mn_any, ↓z_pg_nil, ↓z_so_cons, ↓z_put, ↓z_store, ↓y_sz99, ↓z_cl_osl, ↓z_store_ptr, ↓spsW_cons, ↓drW_cons, reduceCtorEq, ↓drW_nil, ↓z_cat_nil_r, ↓z_put_none, ↓z_ops_nil, ↓z_blk_nrm, ↓z_onlyN, true_and]); (try simp only [Int.toNat_natCast, Nat.mul_one, Bool.or_false, Bool.false_or, Bool.or_self, Bool.or_true])
      exact ⟨by omega, by omega, by rw [e1, List.map_append]; rfl, by rw [e2, List.map_append]; rfl⟩
  · rw [List.length_map]
    have em := losL_max rate x rs
    have en := hisL_min rate x rs
    cases e : rs.length with
    | zero =>
      rw [bdI0]
      obtain rfl := List.eq_nil_of_length_eq_zero e
      (simp -dsimp only [↓z_blk_nrm, ↓z_seq_nrm, ↓z_r_seq, ↓z_r_region_d, ↓y_mix, true_and, ↓z_dro_cons, ↓reduceIte, Nat.reduceEqDiff, ↓z_dro_nil, ↓lkoW_cons])
      refine rgn_d (by decide +kernel) ?_
      (simp -dsimp only [↓z_drw_load, ↓z_drwS, ↓z_grd_none, ↓z_withE, ↓z_rd_tmp, ↓z_zp_cons, ↓z_zp_nil, ↓z_rd_nil, ↓z_ap_cons, ↓z_ap_nil, ↓z_load, ↓evW_tmp, ↓lkW_cons, ↓reduceIte, ↓y_ty99, ↓y_sz99, ↓z_agTy_sl, and_true, ↓loadW_ptr, ↓lkoW_cons, ↓z_rd_f, ↓nthW_cons, ↓z_exD_all, ↓z_exD_eq, ↓z_put, Nat.reduceLT, ↓z_drwK, ↓z_drw_callv, ↓z_rd_func, true_and])
      refine ex_mk (.int .i64 (maxL [0])) (fun E => by (simp -dsimp only [↓z_ap_cons, ↓z_ap_nil, ↓z_callv, ↓evW_func, ↓z_evL_cons, ↓evW_tmp, ↓lkW_cons, ↓reduceIte, ↓z_evL_nil, ↓z_fun0, ↓z_coeL_cons, ↓z_coe_slx, ↓z_coeL_nil]); exact call_fn ((fn_Max G [0] (by simp)).weak (.cons (.slx ..) .nil)) fun _ => ⟨rfl, rfl⟩) ?_
      (simp -dsimp only [↓z_put, Nat.reduceLT, ↓z_drwK, ↓z_drw_load, ↓z_drwS, ↓z_grd_none, ↓z_withE, ↓z_rd_tmp, ↓lkW_cons, Nat.reduceEqDiff, ↓reduceIte, ↓z_zp_cons, ↓z_zp_nil, ↓z_rd_nil, ↓z_ap_cons, ↓z_ap_nil, ↓z_load, ↓evW_tmp, ↓y_ty99, ↓y_sz99, ↓z_agTy_sl, and_true, ↓loadW_ptr, ↓lkoW_cons, ↓z_rd_f, ↓nthW_cons, ↓z_exD_all, ↓z_exD_eq, ↓z_drw_callv, ↓z_rd_func, true_and])
      refine ex_mk (.int .i64 (minL [3600000000])) (fun E => by (simp -dsimp only [↓z_ap_cons, ↓z_ap_nil, ↓z_callv, ↓evW_func, ↓z_evL_cons, ↓evW_tmp, ↓lkW_cons, ↓reduceIte, ↓z_evL_nil, ↓z_fun0, ↓z_coeL_cons, ↓z_coe_slx, ↓z_coeL_nil]); (try simp only [Int.toNat_natCast, Nat.mul_one, Bool.or_false, Bool.false_or, Bool.or_self, Bool.or_true]); exact call_fn ((fn_Min G [3600000000] (by simp)).weak (.cons (.slx ..) .nil)) fun _ => ⟨rfl, rfl⟩) ?_
      (simp -dsimp only [↓z_put, Nat.reduceLT, ↓z_drwK, ↓z_drw_assign, ↓z_drwS, ↓z_grd_none, ↓z_withE, ↓z_rd_tmp, ↓lkW_cons, Nat.reduceEqDiff, ↓reduceIte, ↓z_rd_nil, ↓z_ap_cons, ↓z_ap_nil, ↓z_assign, ↓evW_tmp, and_true, ↓z_exD_all, ↓z_exD_eq, ↓z_drw_nil, ↓z_seq_nrm, ↓z_r_ret, ↓z_end_rt, resLW, res1W, ↓z_zp_cons, ↓z_zp_nil, ↓z_coeL_cons, ↓z_coeL_nil, ↓z_pack2, D.tup.injEq, List.cons.injEq, ↓z_coe_int, D.int.injEq, true_and]); (try simp only [Int.toNat_natCast, Nat.mul_one, Bool.or_false, Bool.false_or, Bool.or_self, Bool.or_true])
      rw [minL_one, maxL_one]
      exact ⟨rfl, rfl⟩
    | succ n =>
      rw [bdIs]
      have l1 := losL_len (rate := rate) (x := x) (rs := rs) (i := n + 1) (by omega)
      have l2 := hisL_len (rate := rate) (x := x) (rs := rs) (i := n + 1) (by omega)
      rw [e] at em en
      (simp -dsimp only [↓z_blk_nrm, ↓z_seq_nrm, ↓z_r_seq, ↓z_r_region_d, ↓y_mix, true_and, ↓z_dro_cons, ↓reduceIte, Nat.reduceEqDiff, ↓z_dro_nil, ↓lkoW_cons])
      refine rgn_d (by decide +kernel) ?_
      (simp -dsimp only [↓z_drw_load, ↓z_drwS, ↓z_grd_none, ↓z_withE, ↓z_rd_tmp, ↓z_zp_cons, ↓z_zp_nil, ↓z_rd_nil, ↓z_ap_cons, ↓z_ap_nil, ↓z_load, ↓evW_tmp, ↓lkW_cons, ↓reduceIte, ↓y_ty99, ↓y_sz99, ↓z_agTy_sl, and_true, ↓loadW_ptr, ↓lkoW_cons, ↓z_rd_f, ↓nthW_cons, ↓z_exD_all, ↓z_exD_eq, ↓z_put, Nat.reduceLT, ↓z_drwK, ↓z_drw_callv, ↓z_rd_func, true_and])
      refine ex_mk (.int .i64 (loB rate x rs)) (fun E => by
        (simp -dsimp only [↓z_ap_cons, ↓z_ap_nil, ↓z_callv, ↓evW_func, ↓z_evL_cons, ↓evW_tmp, ↓lkW_cons, ↓reduceIte, ↓z_evL_nil, ↓z_fun0, ↓z_coeL_cons, ↓z_coe_osl, ↓lkoW_cons, Nat.reduceEqDiff, ↓z_allP_int, List.length_map, l1, Nat.mul_one, ↓z_coeL_nil, true_and])
        exact call_fnL (d := .int .i64 (loB rate x rs)) (((fn_Max G (losL rate x rs (n + 1)) (by omega)).out (by rw [em])).inp (by rw [l1])) rfl fun _ => ⟨rfl, rfl⟩) ?_
      (simp -dsimp only [↓z_put, Nat.reduceLT, ↓z_drwK, ↓z_drw_load, ↓z_drwS, ↓z_grd_none, ↓z_withE, ↓z_rd_tmp, ↓lkW_cons, Nat.reduceEqDiff, ↓reduceIte, ↓z_zp_cons, ↓z_zp_nil, ↓z_rd_nil, ↓z_ap_cons, ↓z_ap_nil, ↓z_load, ↓evW_tmp, ↓y_ty99, ↓y_sz99, ↓z_agTy_sl, and_true, ↓loadW_ptr, ↓lkoW_cons, ↓z_rd_f, ↓nthW_cons, ↓z_exD_all, ↓z_exD_eq, ↓z_drw_callv, ↓z_rd_func, true_and])
      refine ex_mk (.int .i64 (hiB rate x rs)) (fun E => by
        (simp -dsimp only [↓z_ap_cons, ↓z_ap_nil, ↓z_callv, ↓evW_func, ↓z_evL_cons, ↓evW_tmp, ↓lkW_cons, ↓reduceIte, ↓z_evL_nil, ↓z_fun0, ↓z_coeL_cons, ↓z_coe_osl, ↓lkoW_cons, Nat.reduceEqDiff, ↓z_allP_int, List.length_map, l2, Nat.mul_one, ↓z_coeL_nil, true_and]); (try simp only [Int.toNat_natCast, Nat.mul_one, Bool.or_false, Bool.false_or, Bool.or_self, Bool.or_true])
        exact call_fnL (d := .int .i64 (hiB rate x rs)) (((fn_Min G (hisL rate x rs (n + 1)) (by omega)).out (by rw [en])).inp (by rw [l2])) rfl fun _ => ⟨rfl, rfl⟩) ?_
      (simp -dsimp only [↓z_put, Nat.reduceLT, ↓z_drwK, ↓z_drw_assign, ↓z_drwS, ↓z_grd_none, ↓z_withE, ↓z_rd_tmp, ↓lkW_cons, Nat.reduceEqDiff, ↓reduceIte, ↓z_rd_nil, ↓z_ap_cons, ↓z_ap_nil, ↓z_assign, ↓evW_tmp, and_true, ↓z_exD_all, ↓z_exD_eq, ↓z_drw_nil, ↓z_seq_nrm, ↓z_r_ret, ↓z_end_rt, resLW, res1W, ↓z_zp_cons, ↓z_zp_nil, ↓z_coeL_cons, ↓z_coeL_nil, ↓z_pack2, D.tup.injEq, List.cons.injEq, ↓z_coe_int, and_self]); (try simp only [Int.toNat_natCast, Nat.mul_one, Bool.or_false, Bool.false_or, Bool.or_self, Bool.or_true])
theorem pasL_ok {r s : Int} (h0 : 0 ≤ r) (h1 : r ≤ 100000) (h2 : instP s) : pasL r s = pLo r s := by unfold pasL; rw [if_neg (by omega)]
theorem pasH_ok {r s : Int} (h0 : 0 ≤ r) (h1 : r ≤ 100000) (h2 : instP s) : pasH r s = pHi r s := by unfold pasH; rw [if_neg (by omega)]
theorem pasE_ok {r s : Int} (h0 : 0 ≤ r) (h1 : r ≤ 100000) (h2 : instP s) : pasE r s = 0 := by unfold pasE; rw [if_neg (by omega)]
set_option maxRecDepth 100000 in
set_option maxHeartbeats 8000000 in
theorem fn_allowed (G : Glob) (rate x : Int) (r : Rd) (h0 : 0 ≤ rate) (h1 : rate ≤ 100000) (hr : rdP r) (hx : instP x) : Fn G Try.prog 50 [.int .i64 rate, .agg [.int .i64 r.1, .int .i64 r.2.1, .int .i64 r.2.2], .int .i64 x] (.agg [.int .i64 (wLo rate x r), .int .i64 (wHi rate x r)]) := by
  refine Fn.mk (c := _) Try.func50 rfl rfl Try.ntmps50 Try.results50 ?_
  (simp -dsimp only [bodyW, List.length_cons, List.length_nil, Nat.zero_add, Nat.reduceAdd, Nat.reduceLeDiff, wfL, ↓z_seq, ↓z_region, ↓z_ops_plain, ↓z_box, ↓evW_tmp, ↓z_lk_env, reduceCtorEq, ↓reduceIte, ↓z_cl_agg, ↓z_nmC_cons, ↓z_mn'_int, ↓z_nmC_nil, and_self, ↓z_new, ↓z_nm_nil, Nat.reduceLT, ↓z_pg_env, ↓z_mn_int, ↓z_mn_agg, ↓z_pg_env0, ↓z_put, ↓z_alloc, ↓y_zr27, ↓z_nm_cons, ↓z_pg_cons, ↓z_mn_ptr, ↓z_pg_nil, ↓z_ops_nil, ↓z_seq_nrm, ↓z_move, ↓lkW_cons, Nat.reduceEqDiff, ↓z_fieldAddr, ↓y_fl29x0, ↓y_sz3, ne_eq, not_false_eq_true, ↓z_fa_ptr, ↓z_load, ↓y_ty3, ↓z_agTy_int, ↓loadW_ptr, ↓lkoW_cons, ↓z_rd_f, ↓nthW_cons, ↓z_binOp, ↓z_bn_sub, ↓wrW_i64, inR_i64, Int.reduceNeg, ↓z_callv, ↓evW_func, ↓z_evL_cons, ↓z_evL_nil, ↓z_fun0, ↓z_coeL_cons, ↓z_coe_int, ↓z_coeL_nil, true_and])
  intro _ _ _
  have hdif : difI x r = max (x - r.1) (r.1 - x) := rfl
  have hna : ((x - r.1).natAbs : Int) = difI x r := by rw [hdif]; omega
  have hd0 : instP (difI x r) := by rw [hdif]; omega
  have rl := pLo_rng (r := rate) (s := difI x r) h0 hd0.1
  have rh := pHi_rng (r := rate) (s := difI x r) h0 h1 hd0.1
  have hdu := hd0.2
  refine ⟨by omega, call_fn ((fn_size G (x - r.1) (by omega)).out (by rw [hna])) fun _ => ?_⟩
  (simp -dsimp only [↓z_put, Nat.reduceLT, ↓z_ops_plain, ↓z_callv, ↓evW_func, ↓z_evL_cons, ↓evW_tmp, ↓lkW_cons, Nat.reduceEqDiff, ↓reduceIte, ↓z_evL_nil, ↓z_fun0, ↓z_coeL_cons, ↓z_coe_int, ↓z_coeL_nil, true_and])
  refine call_fn ((fn_refPassed G rate (difI x r)).out (by rw [pasL_ok h0 h1 hd0, pasH_ok h0 h1 hd0, pasE_ok h0 h1 hd0])) fun _ => ?_
  (simp -dsimp only [↓z_put, Nat.reduceLT, ↓z_ops_plain, ↓z_alloc, ↓y_zr36, ↓z_new, ↓z_nm_cons, ↓z_nmC_cons, ↓z_mn'_int, ↓z_nmC_nil, and_self, ↓z_nm_nil, Nat.zero_add, Nat.reduceAdd, ↓z_pg_cons, ↓z_mn_agg, ↓z_mn_int, ↓z_mn_ptr, reduceCtorEq, ↓reduceIte, Nat.reduceEqDiff, ↓z_pg_nil, ↓z_store, ↓evW_tmp, ↓lkW_cons, ↓y_sz36, ↓z_cl_agg, List.length_cons, List.length_nil, ↓z_store_ptr, ↓lkoW_cons, Nat.reduceLeDiff, ↓spsW_cons, ↓drW_cons, Nat.reduceSub, ↓drW_nil, ↓z_cat_nil_r, ↓z_so_cons, ↓z_put_none, ↓z_ops_nil, ↓z_seq_nrm, ↓z_seq, ↓z_block, ↓z_region, ↓z_fieldAddr, ↓y_fl29x0, ↓y_sz3, ne_eq, not_false_eq_true, ↓z_fa_ptr, ↓z_load, ↓y_ty3, ↓z_agTy_int, ↓loadW_ptr, ↓z_rd_f, ↓nthW_cons, ↓z_move, ↓z_binOp, ↓z_bn_lss, ↓z_assign, ↓z_cond, ↓z_cnd, ↓z_gdt, ↓y_fl29x1, ↓y_sz27, ↓y_fl27x0, ↓y_fl36x0, ↓z_bn_add, ↓wrW_i64, inR_i64, Int.reduceNeg, ↓y_fl27x1, ↓y_fl36x1, ↓z_build, ↓y_ty27, ↓z_blTy_st, ↓y_zr27, ↓z_bld_cons, ↓z_cl_int, ↓catW_cons, ↓catW_nil, ↓z_bld_nil, ↓z_cl_oag, ↓z_ret, ↓z_blk_rt, ↓z_seq_rt, ↓z_end_rt, resLW, res1W, ↓z_agTy_st, ↓z_coeL_cons, ↓z_coeL_nil, ↓z_pack1, ↓z_rd_t, ↓z_sub_c, ↓z_sub_nil, ↓z_coe_oag, ↓z_coeC_cons, ↓z_coeS_int, ↓z_coeC_nil, D.agg.injEq, List.cons.injEq, D.int.injEq, true_and, and_true, ↓z_bn_gtr, ↓z_bn_sub, ↓z_skip, ↓z_blk_nrm, z_ite]); (try simp only [Int.toNat_natCast, Nat.mul_one, Bool.or_false, Bool.false_or, Bool.or_self, Bool.or_true])
  unfold wLo wHi
  refine ⟨fun g => ⟨by omega, by omega, rfl, ?_, ?_⟩, fun g => ⟨fun g2 => ⟨by omega, by omega, rfl, ?_, ?_⟩, fun g2 => ⟨by omega, by omega, rfl, ?_, ?_⟩⟩⟩
  · rw [if_pos g]
  · rw [if_neg (by omega)]
  · rw [if_neg (by omega)]
  · rw [if_pos g2]
  · rw [if_neg (by omega)]
  · rw [if_neg (by omega)]
/-- The bounds of the first readings. -/
def loK (rate x : Int) (rs : List Rd) (i : Nat) : Int := ((rs.take i).map (wLo rate x)).foldl max 0
def hiK (rate x : Int) (rs : List Rd) (i : Nat) : Int := ((rs.take i).map (wHi rate x)).foldl min 3600000000
theorem loK_s {rate x : Int} {rs : List Rd} {i : Nat} (h : i < rs.length) : loK rate x rs (i + 1) = max (loK rate x rs i) (wLo rate x rs[i]) := by
  unfold loK; rw [show rs.take (i + 1) = rs.take i ++ [rs[i]] by simp, List.map_append, List.foldl_append]; rfl
theorem hiK_s {rate x : Int} {rs : List Rd} {i : Nat} (h : i < rs.length) : hiK rate x rs (i + 1) = min (hiK rate x rs i) (wHi rate x rs[i]) := by
  unfold hiK; rw [show rs.take (i + 1) = rs.take i ++ [rs[i]] by simp, List.map_append, List.foldl_append]; rfl
theorem loK_n {rate x : Int} {rs : List Rd} : loK rate x rs rs.length = loB rate x rs := by unfold loK loB; rw [List.take_length]
theorem hiK_n {rate x : Int} {rs : List Rd} : hiK rate x rs rs.length = hiB rate x rs := by unfold hiK hiB; rw [List.take_length]
set_option maxRecDepth 100000 in
set_option maxHeartbeats 8000000 in
theorem fn_Bounds (G : Glob) (rate x : Int) (rs : List Rd) (hc : chkC rate rs = 0) (hx : instP x) : Fn G Try.prog 39 [.agg (clkA rate rs), .int .i64 x] (.agg [.int .i64 (loB rate x rs), .int .i64 (hiB rate x rs)]) := by
  obtain ⟨c1, c2, c3, c4, c5⟩ := chkC_ok hc
  unfold clkA
  refine Fn.mk (c := _) Try.func39 rfl rfl Try.ntmps39 Try.results39 ?_
  (simp -dsimp only [bodyW, List.length_cons, List.length_nil, Nat.zero_add, Nat.reduceAdd, Nat.reduceLeDiff, wfL, ↓z_seq, ↓z_region, ↓z_ops_plain, ↓z_box, ↓evW_tmp, ↓z_lk_env, ↓reduceIte, ↓z_cl_agg, ↓z_nmC_cons, ↓z_mn'_int, ↓z_mn'_sl, ↓z_nmC_nil, and_self, ↓z_new, ↓z_nm_nil, Nat.reduceLT, ↓z_pg_env, ↓z_mn_agg, ↓z_mn_int, ↓z_pg_env0, ↓z_put, ↓z_alloc, ↓y_zr27, ↓z_nm_cons, ↓z_pg_cons, ↓z_mn_ptr, reduceCtorEq, ↓z_pg_nil, ↓z_ops_nil, ↓z_seq_nrm, ↓z_build, ↓y_ty27, ↓z_blTy_st, ↓z_bld_cons, ↓y_fl27x1, ↓y_sz3, ↓evW_const, ↓constW_int, inR_i64, Int.reduceNeg, Int.reduceLE, ↓z_cl_int, ↓spsW_cons, Nat.reduceSub, ↓drW_cons, ↓drW_nil, ↓z_cat_nil_r, ↓z_bld_nil, ↓z_mn_oag, ↓z_mnL_int, ↓z_mnL_nil, Nat.reduceEqDiff, ↓z_store, ↓lkW_cons, ↓y_sz27, ↓z_cl_oag, ↓z_store_ptr, ↓lkoW_cons, ↓z_so_cons, ↓z_put_none, ↓z_assign, ↓z_block, ↓z_loop, true_and])
  intro hd _
  refine ⟨rfl, hold_intro ⟨[], Nat, fun i => ⟨37, 3, [(6, .int .i64 i), (5, .ptr 2 0), (4, .ptr 1 0), (2, .ptr 0 0), (1, .int .i64 x)], [(2, [.int .i64 (loK rate x rs i), .int .i64 (hiK rate x rs i)]), (1, [.int .i64 0, .int .i64 0]), (0, clkA rate rs)]⟩, fun i => i ≤ rs.length, fun i => rs.length - i, ?_, ?_⟩⟩
  · unfold clkA; (simp -dsimp only [↓z_ad_nil, ↓z_wk, ↓z_wkE_cons, ↓lkW_cons, ↓reduceIte, D.int.injEq, true_and, Nat.reduceEqDiff, Nat.zero_add, Nat.reduceAdd, reduceCtorEq, ↓z_wkE_nil, and_self, and_true, ↓z_wkO_cons, ↓lkoW_cons, List.cons.injEq, ↓z_wkO_nil]); (try simp only [Int.toNat_natCast, Nat.mul_one, Bool.or_false, Bool.false_or, Bool.or_self, Bool.or_true])
    exact ⟨0, by omega, rfl, rfl, rfl⟩
  rintro i hi
  unfold clkA
  by_cases h : i < rs.length
  · have hop := rd_at h
    have hl2 := rd_len rs
    have hk1 := loK_s (rate := rate) (x := x) h
    have hk2 := hiK_s (rate := rate) (x := x) h
    (simp -dsimp only [↓z_seq, ↓z_region, ↓z_ops_plain, ↓z_move, ↓evW_tmp, ↓lkW_cons, ↓reduceIte, ↓z_put, Nat.reduceLT, ↓z_fieldAddr, Nat.reduceEqDiff, ↓y_fl24x1, ↓y_sz22, ne_eq, reduceCtorEq, not_false_eq_true, ↓z_fa_ptr, ↓z_load, ↓y_ty22, ↓z_agTy_sl, ↓loadW_ptr, ↓lkoW_cons, ↓z_rd_f, ↓nthW_cons, Nat.zero_add, Nat.reduceSub, ↓z_callb, ↓z_evL_cons, ↓z_evL_nil, ↓z_len, ↓z_ln_sl, ↓z_binOp, ↓z_bn_lss, ↓z_ops_nil, ↓z_seq_nrm, ↓z_cond, ↓z_cnd, ↓z_gdt, ↓z_skip, ↓z_block, ↓z_region_d, ↓y_mix, true_and, ↓z_exit, ↓z_seq_ext, ↓z_lp_ext, ↓z_blk_ext, ↓y_ty27, ↓y_sz27, ↓z_agTy_st, ↓z_rd_t, List.length_cons, List.length_nil, Nat.reduceAdd, Nat.reduceLeDiff, ↓z_sub_c, ↓z_sub_nil, ↓z_store, ↓z_cl_oag, ↓z_store_ptr, ↓spsW_cons, ↓drW_cons, ↓drW_nil, ↓z_cat_nil_r, ↓z_so_cons, ↓z_put_none, ↓z_ret, ↓z_end_rt, resLW, res1W, ↓z_coeL_cons, ↓z_coeL_nil, ↓z_pack1, ↓z_coe_oag, ↓z_coeC_cons, ↓z_coeS_int, ↓z_coeC_nil, D.agg.injEq, List.cons.injEq, D.int.injEq, and_true, z_ite])
    refine ⟨fun _ => rgn_x 10 [] (by decide +kernel) ?_, fun h => by omega⟩
    (simp -dsimp only [↓z_nmRE_cons, ↓z_nmR_bool, ↓z_nmR_int, ↓z_nmR_sl, ↓z_nmR_ptr, Nat.reduceLT, Nat.reduceLeDiff, or_false, ↓z_nmRE_nil, and_self, ↓z_nmRO_cons, ↓z_nmRL_cons, ↓z_nmRL_nil, ↓z_nmRO_nil, ↓z_splitO_cons, List.not_mem_nil, ↓reduceIte, ↓z_splitO_nil, List.take_succ_cons, List.take_zero, Nat.zero_add, List.drop_succ_cons, List.drop_zero, ↓z_region, ↓z_ops_plain, ↓z_fieldAddr, ↓y_fl27x0, ↓y_sz3, ne_eq, reduceCtorEq, not_false_eq_true, ↓z_load, ↓y_ty3, ↓z_agTy_int, ↓z_callb, ↓z_evL_cons, ↓z_evL_nil, ↓z_max, ↓y_fl27x1, ↓z_min, ↓z_build, ↓y_ty27, ↓z_blTy_st, ↓y_zr27, ↓z_bld_cons, List.length_cons, List.length_nil, Nat.reduceAdd, ↓spsW_cons, ↓drW_cons, Nat.reduceSub, ↓z_bld_nil, ↓z_store, ↓y_sz27, ↓z_put_none, ↓z_ops_nil, ↓z_blk_nrm, ↓z_seq_nrm, ↓z_move, ↓z_binOp, ↓evW_const, ↓constW_int, inR_i64, Int.reduceNeg, Int.reduceLE, ↓z_assign, ↓z_lp_nrm, true_and, z_sps, ↓z_seq, ↓z_agTy_st, ↓z_ret, ↓z_end_rt, resLW, res1W, ↓z_coeL_cons, ↓z_coeL_nil, ↓z_pack1, ↓evW_tmp, ↓z_drx_fieldAddr, ↓z_drxS, ↓z_grd_none, ↓z_withE, ↓z_rd_tmp, ↓lkW_cons, Nat.reduceEqDiff, ↓z_rd_nil, ↓z_ap_cons, ↓z_ap_nil, ↓z_apO_cons, ↓z_apO_nil, ↓y_fl24x0, ↓z_fa_ptr, and_true, ↓z_exD_all, ↓z_exD_all2, ↓z_exD_eq, ↓z_put, ↓z_drxK, ↓z_drx_load, ↓loadW_ptr, ↓lkoW_cons, ↓z_rd_f, ↓nthW_cons, ↓y_fl24x1, ↓y_sz22, ↓y_ty22, ↓z_agTy_sl, ↓z_drx_move, ↓z_drx_indexAddr, ↓z_indexAddr, ↓z_elTy_sl, ↓y_sz29, ↓z_ix_sl, ↓z_exD_and, ↓z_nmR_rop, ↓y_ty29, ↓loadW_rop, ↓z_rd_t, hl2, z_sub, ↓z_nmR_agg, ↓z_drx_callv]); (try simp only [Int.toNat_natCast])
    refine ⟨by omega, by omega, by omega, cv_ex ?_⟩
    (simp -dsimp only [↓z_drxA_callv, ↓z_grd_none, ↓z_withE, ↓z_rd_func, ↓z_rd_tmp, ↓lkW_cons, Nat.reduceEqDiff, ↓reduceIte, ↓z_rd_nil]); (try simp only [Int.toNat_natCast, Nat.mul_one, Bool.or_false, Bool.false_or, Bool.or_self, Bool.or_true])
    refine ex_mk (.agg [.int .i64 (wLo rate x rs[i]), .int .i64 (wHi rate x rs[i])]) (fun E X => by
      rw [hop]
      (simp -dsimp only [↓z_ap_cons, ↓z_ap_nil, ↓z_apO_cons, ↓z_apO_nil, ↓z_callv, ↓evW_func, ↓z_evL_cons, ↓evW_tmp, ↓lkW_cons, ↓reduceIte, Nat.reduceEqDiff, ↓z_evL_nil, ↓z_fun0, ↓z_coeL_cons, ↓z_coe_int, ↓z_coe_agg, ↓z_coeL_nil]); (try simp only [Int.toNat_natCast, Nat.mul_one, Bool.or_false, Bool.false_or, Bool.or_self, Bool.or_true])
      exact call_fn (fn_allowed G rate x rs[i] c1 c2 (c4 _ (List.getElem_mem h)) hx) fun _ => ⟨rfl, rfl⟩) ?_
    (simp -dsimp only [↓z_nmR_agg, ↓z_put, Nat.reduceLT, ↓z_drxK, ↓z_drx_alloc, ↓y_zr27, ↓z_nmRL_cons, ↓z_nmR_int, ↓z_nmRL_nil, and_self, ↓z_drx_nil, ↓z_apO_cons, ↓z_apO_nil, ↓lkW_cons, ↓reduceIte, Nat.reduceEqDiff, ↓z_cl_agg, List.length_cons, List.length_nil, Nat.zero_add, Nat.reduceAdd, ↓z_store_ptr, ↓lkoW_cons, Nat.reduceLeDiff, ↓spsW_cons, ↓drW_cons, reduceCtorEq, Nat.reduceSub, ↓drW_nil, ↓z_cat_nil_r, ↓z_so_cons, ↓evW_tmp, ↓z_fa_ptr, ↓loadW_ptr, ↓z_rd_f, ↓nthW_cons, ↓z_mx_max, ↓z_mx_nil, ↓z_mx_min, ↓z_cl_int, ↓catW_cons, ↓catW_nil, ↓z_cl_oag, List.take_succ_cons, List.take_zero, List.drop_succ_cons, List.drop_zero, List.append_nil, List.length_append, ↓z_bn_add, ↓wrW_i64, inR_i64, Int.reduceNeg, ↓z_wk, ↓z_wkE_cons, D.int.injEq, true_and, ↓z_wkE_nil, and_true, ↓z_wkO_cons, ↓z_wkO_nil]); (try simp only [Int.toNat_natCast, Nat.mul_one, Bool.or_false, Bool.false_or, Bool.or_self, Bool.or_true])
    exact ⟨rfl, by omega, i + 1, by omega, by omega, by omega, by rw [hk1, hk2]; rfl⟩
  · have e : i = rs.length := by omega
    subst e
    have e1 := loK_n (rate := rate) (x := x) (rs := rs)
    have e2 := hiK_n (rate := rate) (x := x) (rs := rs)
    (simp -dsimp only [↓z_seq, ↓z_region, ↓z_ops_plain, ↓z_move, ↓evW_tmp, ↓lkW_cons, ↓reduceIte, ↓z_put, Nat.reduceLT, ↓z_fieldAddr, Nat.reduceEqDiff, ↓y_fl24x1, ↓y_sz22, ne_eq, reduceCtorEq, not_false_eq_true, ↓z_fa_ptr, ↓z_load, ↓y_ty22, ↓z_agTy_sl, ↓loadW_ptr, ↓lkoW_cons, ↓z_rd_f, ↓nthW_cons, Nat.zero_add, Nat.reduceSub, ↓z_callb, ↓z_evL_cons, ↓z_evL_nil, ↓z_len, ↓z_ln_sl, ↓z_binOp, ↓z_bn_lss, ↓z_ops_nil, ↓z_seq_nrm, ↓z_cond, ↓z_cnd, ↓z_gdt, ↓z_skip, ↓z_block, ↓z_region_d, ↓y_mix, true_and, ↓z_exit, ↓z_seq_ext, ↓z_lp_ext, ↓z_blk_ext, ↓y_ty27, ↓y_sz27, ↓z_agTy_st, ↓z_rd_t, e1, e2, List.length_cons, List.length_nil, Nat.reduceAdd, Nat.reduceLeDiff, ↓z_sub_c, ↓z_sub_nil, ↓z_store, ↓z_cl_oag, ↓z_store_ptr, ↓spsW_cons, ↓drW_cons, ↓drW_nil, ↓z_cat_nil_r, ↓z_so_cons, ↓z_put_none, ↓z_ret, ↓z_end_rt, resLW, res1W, ↓z_coeL_cons, ↓z_coeL_nil, ↓z_pack1, ↓z_coe_oag, ↓z_coeC_cons, ↓z_coeS_int, ↓z_coeC_nil, and_self, z_ite])
    exact ⟨fun h => by omega, fun _ => trivial⟩
end Go.Abs

