/-
  BILL, second walks: the postings of an account; balances.
-/
import Derived.Test.YtccipobbdohdpaaDoorB2
namespace Go.Abs
open Go.Proofs
theorem got_d {acc x : Int} {p : Po} (h : pOk acc p) (hx : p.d = x) : gotP x p = p.a ∧ p.c ≠ x := by
  have := h.1; unfold badP at this; unfold gotP; rw [if_pos hx, if_neg (by omega)]; omega
theorem got_c {acc x : Int} {p : Po} (h : pOk acc p) (hx : p.c = x) : gotP x p = -p.a ∧ p.d ≠ x := by
  have := h.1; unfold badP at this; unfold gotP; rw [if_pos hx, if_neg (by omega)]; omega
theorem fn_of (G : Glob) (acc x bf : Int) (ps : List Po) : Fn G Tryd.prog 44 [.agg (bkC acc ps), .int .i64 x, .int .i64 bf] (.fn 53 [.rop (bkC acc ps) 0, .rop [.int .i64 bf] 0, .rop [.int .i64 x] 0]) := by
  unfold bkC
  refine Fn.mk (c := _) Tryd.func44 rfl rfl Tryd.ntmps44 Tryd.results44 ?_
  (simp -dsimp only [bodyW, List.length_cons, List.length_nil, Nat.zero_add, Nat.reduceAdd, Nat.reduceLeDiff, wfL, ↓z_seq, ↓z_region, ↓z_ops_plain, ↓z_box, ↓evW_tmp, ↓z_lk_env, ↓reduceIte, ↓z_cl_agg, ↓z_nmC_cons, ↓z_mn'_int, ↓z_mn'_sl, ↓z_nmC_nil, and_self, ↓z_new, ↓z_nm_nil, Nat.reduceLT, ↓z_pg_env, ↓z_mn_agg, ↓z_mn_int, ↓z_pg_env0, ↓z_put, ↓lkW_cons, Nat.reduceEqDiff, reduceCtorEq, ↓z_cl_int, ↓z_nm_cons, ↓z_pg_cons, ↓z_mn_ptr, ↓z_pg_nil, ↓z_assign, ↓evW_const, ↓constW_nilFunc, ↓z_ops_nil, ↓z_seq_nrm, ↓z_makeFunc, ↓z_evL_cons, ↓z_evL_nil, ↓z_ret, ↓z_end_rt, resLW, res1W, ↓z_coeL_cons, ↓z_coeL_nil, ↓z_pack1, ↓z_coe_ofn, ↓z_coeC_cons, ↓z_coeS_ptr, ↓lkoW_cons, ↓z_allP_cons, ↓z_isP_int, ↓z_isP_sl, ↓z_allP_nil, ↓z_coeC_nil, true_and]); (try simp only [Int.toNat_natCast, Nat.mul_one, Bool.or_false, Bool.false_or, Bool.or_self, Bool.or_true])
  exact fun _ _ _ => trivial
def ofY (x bf : Int) (ps : List Po) : List (List D) := (ofP x bf ps).map fun y => [.int .i64 (y.1 : Int), .int .i64 (gotP x y.2)]
theorem ofY_at {x bf : Int} {ps : List Po} {i : Nat} {a : Int} (hp : ∀ j, (h : j < ps.length) → j < i → ps[j].t < bf) (h : i < ps.length) (ht : ps[i].t < bf) (hx : ps[i].d = x ∨ ps[i].c = x) (ha : gotP x ps[i] = a) :
    (ofY x bf ps)[(gP x 0 (ps.take i)).length]? = some [.int .i64 (i : Int), .int .i64 a] := by
  unfold ofY
  rw [List.getElem?_map, ofP_at hp h ht hx, Option.map_some, ha]
set_option maxRecDepth 100000 in
set_option maxHeartbeats 8000000 in
theorem yd_of (G : Glob) (acc x bf : Int) (ps : List Po) (hb : BkOk acc ps) : YieldsC G Tryd.prog 53 [.rop (bkC acc ps) 0, .rop [.int .i64 bf] 0, .rop [.int .i64 x] 0] (ofY x bf ps) := by
  unfold bkC
  refine YieldsC.mk (c := _) Tryd.func53 rfl rfl Tryd.ntmps53 Tryd.results53 (by simp) fun l => ?_
  have hlen := hb.len
  (simp -dsimp only [wfL, ↓z_y_seq, ↓z_y_region, ↓z_oy_plain, ↓z_yo_fieldAddr, ↓z_fieldAddr, ↓evW_tmp, ↓z_lk_env, reduceCtorEq, ↓reduceIte, Nat.zero_add, ↓y_fl24x1, ↓y_sz22, ne_eq, not_false_eq_true, ↓z_fa_rop, ↓z_put, Nat.reduceLT, ↓z_yo_load, ↓z_load, ↓lkW_cons, ↓y_ty22, ↓z_agTy_sl, ↓loadW_rop, ↓z_rd_f, ↓nthW_cons, Nat.reduceSub, ↓z_yo_callb, ↓z_callb, ↓z_evL_cons, ↓z_evL_nil, ↓z_len, ↓z_ln_sl, ↓z_yo_move, ↓z_move, ↓evW_const, ↓constW_int, inR_i64, Int.reduceNeg, Int.reduceLE, and_self, ↓z_oy_nil, ↓z_seq_nrm, ↓z_y_block, ↓z_y_loop, true_and]); (try simp only [Int.toNat_natCast, Nat.mul_one, Bool.or_false, Bool.false_or, Bool.or_self, Bool.or_true])
  intro hd _ _
  refine hold_intro ⟨[], Nat, fun i => ⟨47, 0, [(10, .int .i64 i), (9, .int .i64 ps.length), (8, .sl 6 ps.length (List.flatMap poC ps)), (0, .yld l), (1, .rop [.int .i64 acc, .sl 6 ps.length (List.flatMap poC ps)] 0), (2, .rop [.int .i64 bf] 0), (3, .rop [.int .i64 x] 0)], [(1000000, [.int .i64 (gP x 0 (ps.take i)).length])]⟩, fun i => i ≤ ps.length ∧ ∀ j, (h : j < ps.length) → j < i → ps[j].t < bf, fun i => ps.length - i, ?_, ?_⟩
  · (simp -dsimp only [↓z_ad_nil, ↓z_wk, ↓z_wkE_cons, ↓lkW_cons, ↓reduceIte, D.int.injEq, true_and, Nat.reduceEqDiff, reduceCtorEq, ↓z_lk_env, Nat.zero_add, Nat.reduceAdd, ↓z_wkE_nil, and_self, and_true, ↓z_wkO_cons, ↓lkoW_cons, List.cons.injEq, ↓z_wkO_nil]); (try simp only [Int.toNat_natCast, Nat.mul_one, Bool.or_false, Bool.false_or, Bool.or_self, Bool.or_true])
    exact ⟨0, ⟨by omega, fun j _ h => by omega⟩, by simp [gP]⟩
  rintro i ⟨hi, hp⟩
  by_cases h : i < ps.length
  · have hl2 := po_len ps
    have hsub := fun k => po_sub h k
    have hlt : ((i : Int) < (ps.length : Int)) = True := eq_true (by omega)
    have hok := hb.ok _ (List.getElem_mem h)
    have hg := gP_s (x := x) h
    have hgl := gP_le (x := x) 0 (ps.take i)
    rw [List.length_take] at hgl
    rcases (show ps[i].t < bf ∨ bf ≤ ps[i].t by omega) with ht | ht
    · have hn : ¬ bf ≤ ps[i].t := by omega
      have hp' : ∀ j, (h : j < ps.length) → j < i + 1 → ps[j].t < bf := fun j hj hji => by
        rcases Nat.lt_or_ge j i with h1 | h1
        · exact hp j hj h1
        · obtain rfl : j = i := by omega
          exact ht
      by_cases hd : ps[i].d = x
      · obtain ⟨e1, e2⟩ := got_d hok hd
        rw [if_pos (.inl hd)] at hg
        (simp -dsimp only [↓z_y_seq, ↓z_y_region, ↓z_oy_plain, ↓z_yo_binOp, ↓z_binOp, ↓evW_tmp, ↓lkW_cons, ↓reduceIte, Nat.reduceEqDiff, ↓z_bn_lss, ↓z_put, Nat.reduceLT, ↓z_oy_nil, ↓z_seq_nrm, ↓z_y_cond, ↓z_cnd, ↓z_gdt, hlt, ↓z_y_skip, ↓z_y_block, ↓z_yo_move, ↓z_move, ↓z_yo_indexAddr, ↓z_indexAddr, ↓y_ty22, ↓z_elTy_sl, ↓y_sz26, ↓z_ix_sl, ↓z_yo_load, ↓z_load, ↓y_ty26, ↓z_agTy_st, ↓loadW_rop, ↓z_rd_t, hl2, ↓hsub, ↓z_yo_alloc, ↓z_alloc, ↓y_zr26, ↓z_new, ↓z_nm_cons, ↓z_nmC_cons, ↓z_mn'_int, ↓z_nmC_nil, and_self, ↓z_nm_nil, ↓z_pg_cons, ↓z_mn_agg, ↓z_mn_rop, ↓z_mn_int, ↓z_mn_bool, ↓z_mn_sl, ↓z_mn_yld, ↓z_pg_nil, ↓z_yo_assign, ↓z_assign, ↓z_yo_store, ↓z_store, ↓z_cl_agg, hd, List.length_cons, List.length_nil, Nat.zero_add, Nat.reduceAdd, ↓z_store_ptr, ↓lkoW_cons, Nat.reduceLeDiff, ↓spsW_cons, ↓drW_cons, reduceCtorEq, Nat.reduceSub, ↓drW_nil, ↓z_cat_nil_r, ↓z_so_cons, ↓z_put_none, ↓z_yo_fieldAddr, ↓z_fieldAddr, ↓y_fl26x3, ↓y_sz3, ne_eq, not_false_eq_true, ↓z_fa_ptr, ↓y_ty3, ↓z_agTy_int, ↓loadW_ptr, ↓z_rd_f, ↓nthW_cons, ↓z_bn_geq, hn, ↓y_fl26x0, ↓z_bn_eql, ↓z_oy_guard, ↓z_grd, ↓z_dst_s, ↓z_dst_0, ↓z_grdD_b, ↓z_gtt, ↓y_fl26x2, ↓z_yo_callv, ↓z_evL_cons, ↓z_evL_nil, ↓z_cy_yld, true_and]); (try simp only [Int.toNat_natCast])
        refine ⟨by omega, by omega, ?_⟩
        refine yld_fz 0 (by simp [flA, flS, ogD]) ?_
        (simp -dsimp only [↓z_frzW, ↓lkoW_cons, ↓reduceIte, ↓z_allP_cons, ↓z_isP_int, ↓z_allP_nil, and_self, ↓z_frzE_cons, ↓z_fz_bool, ↓z_fz_int, ↓z_fz_ptr, ↓z_fz_agg, ↓z_fz_rop, ↓z_fz_sl, ↓z_frzE_nil, ↓z_frzO_cons, reduceCtorEq, ↓z_frzC_cons, ↓z_frzC_nil, ↓z_frzO_nil, true_and]); (try simp only [Int.toNat_natCast, Nat.mul_one, Bool.or_false, Bool.false_or, Bool.or_self, Bool.or_true])
        refine yld0_mk (gP x 0 (ps.take i)).length [(23, .bool true), (6, .rop [.int .i64 ps[i].d, .int .i64 ps[i].c, .int .i64 ps[i].a, .int .i64 ps[i].t, .int .i64 ps[i].w, .int .i64 ps[i].r] 0), (5, .int .i64 i), (10, .int .i64 i), (9, .int .i64 ps.length), (8, .sl 6 ps.length (List.flatMap poC ps)), (0, .yld l), (1, .rop [.int .i64 acc, .sl 6 ps.length (List.flatMap poC ps)] 0), (2, .rop [.int .i64 bf] 0), (3, .rop [.int .i64 x] 0)] (by (simp -dsimp only [↓lkoW_cons, ↓reduceIte]); (try simp only [Int.toNat_natCast, Nat.mul_one, Bool.or_false, Bool.false_or, Bool.or_self, Bool.or_true])) (ofY_at hp h ht (.inl hd) e1) (by omega) ?_
        (simp -dsimp only [↓z_wkE_cons, ↓lkW_cons, ↓reduceIte, Nat.reduceEqDiff, hd, reduceCtorEq, ↓z_wkE_nil, and_self, ↓z_put, Nat.reduceLT, ↓z_oy_guard, ↓z_grd, ↓z_dst_s, ↓z_dst_0, ↓z_grdD_b, ↓z_gtt, ↓z_yo_unOp, ↓z_unOp, ↓evW_tmp, ↓z_un_not, ↓z_oy_plain, ↓z_yo_pick, ↓z_pick, ↓z_pick_b, ↓z_yo_move, ↓z_move, ↓z_gnf, ↓z_yo_fieldAddr, ↓z_fieldAddr, ↓y_fl26x1, ↓y_sz3, ne_eq, not_false_eq_true, ↓z_fa_rop, ↓z_gff, ↓z_yo_load, ↓z_load, ↓y_ty3, ↓z_agTy_int, ↓loadW_rop, ↓z_rd_f, ↓nthW_cons, Nat.zero_add, Nat.reduceSub, ↓z_yo_binOp, ↓z_binOp, ↓z_bn_eql, ↓z_gdt, e2, ↓z_gnt, ↓z_gtf, ↓evW_const, ↓constW_bool, ↓z_gft, ↓z_oy_nil, ↓z_seq_nrm, ↓z_y_cond, ↓z_cnd, ↓z_y_skip, ↓z_blk_nrm, ↓z_y_region, ↓constW_int, inR_i64, Int.reduceNeg, Int.reduceLE, ↓z_bn_add, ↓wrW_i64, ↓z_lp_nrm, ↓z_wk, D.int.injEq, true_and, and_true, ↓z_wkO_cons, ↓lkoW_cons, List.cons.injEq, ↓z_wkO_nil]); (try simp only [Int.toNat_natCast, Nat.mul_one, Bool.or_false, Bool.false_or, Bool.or_self, Bool.or_true])
        exact ⟨by omega, i + 1, ⟨by omega, hp'⟩, by omega, by omega, by rw [hg]; simp⟩
      · by_cases hc : ps[i].c = x
        · obtain ⟨e1, e2⟩ := got_c hok hc
          rw [if_pos (.inr hc)] at hg
          (simp -dsimp only [↓z_y_seq, ↓z_y_region, ↓z_oy_plain, ↓z_yo_binOp, ↓z_binOp, ↓evW_tmp, ↓lkW_cons, ↓reduceIte, Nat.reduceEqDiff, ↓z_bn_lss, ↓z_put, Nat.reduceLT, ↓z_oy_nil, ↓z_seq_nrm, ↓z_y_cond, ↓z_cnd, ↓z_gdt, hlt, ↓z_y_skip, ↓z_y_block, ↓z_yo_move, ↓z_move, ↓z_yo_indexAddr, ↓z_indexAddr, ↓y_ty22, ↓z_elTy_sl, ↓y_sz26, ↓z_ix_sl, ↓z_yo_load, ↓z_load, ↓y_ty26, ↓z_agTy_st, ↓loadW_rop, ↓z_rd_t, hl2, ↓hsub, ↓z_yo_alloc, ↓z_alloc, ↓y_zr26, ↓z_new, ↓z_nm_cons, ↓z_nmC_cons, ↓z_mn'_int, ↓z_nmC_nil, and_self, ↓z_nm_nil, ↓z_pg_cons, ↓z_mn_agg, ↓z_mn_rop, ↓z_mn_int, ↓z_mn_bool, ↓z_mn_sl, ↓z_mn_yld, ↓z_pg_nil, ↓z_yo_assign, ↓z_assign, ↓z_yo_store, ↓z_store, ↓z_cl_agg, hc, List.length_cons, List.length_nil, Nat.zero_add, Nat.reduceAdd, ↓z_store_ptr, ↓lkoW_cons, Nat.reduceLeDiff, ↓spsW_cons, ↓drW_cons, reduceCtorEq, Nat.reduceSub, ↓drW_nil, ↓z_cat_nil_r, ↓z_so_cons, ↓z_put_none, ↓z_yo_fieldAddr, ↓z_fieldAddr, ↓y_fl26x3, ↓y_sz3, ne_eq, not_false_eq_true, ↓z_fa_ptr, ↓y_ty3, ↓z_agTy_int, ↓loadW_ptr, ↓z_rd_f, ↓nthW_cons, ↓z_bn_geq, hn, ↓y_fl26x0, ↓z_bn_eql, ↓z_oy_guard, ↓z_grd, ↓z_dst_s, ↓z_dst_0, ↓z_grdD_b, hd, ↓z_gnt, ↓z_gtf, ↓z_yo_pick, ↓z_pick, ↓z_pick_b, ↓evW_const, ↓constW_bool, ↓z_gff, ↓y_fl26x1, ↓z_gtt, ↓y_fl26x2, ↓z_yo_unOp, ↓z_unOp, ↓z_un_neg, ↓wrW_i64, inR_i64, Int.reduceNeg, ↓z_yo_callv, ↓z_evL_cons, ↓z_evL_nil, ↓z_cy_yld, true_and]); (try simp only [Int.toNat_natCast])
          have ho := hok.2
          unfold outP at ho
          refine ⟨by omega, by omega, by omega, ?_⟩
          rw [Int.zero_sub]
          refine yld_mk (gP x 0 (ps.take i)).length [(31, .bool false), (36, .bool true), (10, .int .i64 i), (9, .int .i64 ps.length), (8, .sl 6 ps.length (List.flatMap poC ps)), (0, .yld l), (1, .rop [.int .i64 acc, .sl 6 ps.length (List.flatMap poC ps)] 0), (2, .rop [.int .i64 bf] 0), (3, .rop [.int .i64 x] 0)] (by simp [flA, flS, ogD]) (by (simp -dsimp only [↓lkoW_cons, reduceCtorEq, ↓reduceIte]); (try simp only [Int.toNat_natCast, Nat.mul_one, Bool.or_false, Bool.false_or, Bool.or_self, Bool.or_true])) (ofY_at hp h ht (.inr hc) e1) (by omega) ?_
          (simp -dsimp only [↓z_wkE_cons, ↓lkW_cons, Nat.reduceEqDiff, ↓reduceIte, reduceCtorEq, ↓z_wkE_nil, and_self, ↓z_put, Nat.reduceLT, ↓z_oy_guard, ↓z_grd, ↓z_dst_s, ↓z_dst_0, ↓z_grdD_b, ↓z_gtt, ↓z_yo_unOp, ↓z_unOp, ↓evW_tmp, ↓z_un_not, ↓z_gff, ↓z_yo_pick, ↓z_pick, ↓z_pick_b, ↓z_oy_plain, ↓z_gft, ↓z_oy_nil, ↓z_seq_nrm, ↓z_y_cond, ↓z_cnd, ↓z_gnt, ↓z_gtf, ↓z_y_skip, ↓z_blk_nrm, ↓z_y_region, ↓z_yo_binOp, ↓z_binOp, ↓evW_const, ↓constW_int, inR_i64, Int.reduceNeg, Int.reduceLE, ↓z_bn_add, ↓wrW_i64, ↓z_yo_move, ↓z_move, ↓z_lp_nrm, ↓z_wk, D.int.injEq, true_and, and_true, ↓z_wkO_cons, ↓lkoW_cons, List.cons.injEq, ↓z_wkO_nil]); (try simp only [Int.toNat_natCast, Nat.mul_one, Bool.or_false, Bool.false_or, Bool.or_self, Bool.or_true])
          exact ⟨by omega, i + 1, ⟨by omega, hp'⟩, by omega, by omega, by rw [hg]; simp⟩
        · rw [if_neg (by omega), List.append_nil] at hg
          (simp -dsimp only [↓z_y_seq, ↓z_y_region, ↓z_oy_plain, ↓z_yo_binOp, ↓z_binOp, ↓evW_tmp, ↓lkW_cons, ↓reduceIte, Nat.reduceEqDiff, ↓z_bn_lss, ↓z_put, Nat.reduceLT, ↓z_oy_nil, ↓z_seq_nrm, ↓z_y_cond, ↓z_cnd, ↓z_gdt, hlt, ↓z_y_skip, ↓z_y_block, ↓z_yo_move, ↓z_move, ↓z_yo_indexAddr, ↓z_indexAddr, ↓y_ty22, ↓z_elTy_sl, ↓y_sz26, ↓z_ix_sl, ↓z_yo_load, ↓z_load, ↓y_ty26, ↓z_agTy_st, ↓loadW_rop, ↓z_rd_t, hl2, ↓hsub, ↓z_yo_alloc, ↓z_alloc, ↓y_zr26, ↓z_new, ↓z_nm_cons, ↓z_nmC_cons, ↓z_mn'_int, ↓z_nmC_nil, and_self, ↓z_nm_nil, ↓z_pg_cons, ↓z_mn_agg, ↓z_mn_rop, ↓z_mn_int, ↓z_mn_bool, ↓z_mn_sl, ↓z_mn_yld, ↓z_pg_nil, ↓z_yo_assign, ↓z_assign, ↓z_yo_store, ↓z_store, ↓z_cl_agg, List.length_cons, List.length_nil, Nat.zero_add, Nat.reduceAdd, ↓z_store_ptr, ↓lkoW_cons, Nat.reduceLeDiff, ↓spsW_cons, ↓drW_cons, reduceCtorEq, Nat.reduceSub, ↓drW_nil, ↓z_cat_nil_r, ↓z_so_cons, ↓z_put_none, ↓z_yo_fieldAddr, ↓z_fieldAddr, ↓y_fl26x3, ↓y_sz3, ne_eq, not_false_eq_true, ↓z_fa_ptr, ↓y_ty3, ↓z_agTy_int, ↓loadW_ptr, ↓z_rd_f, ↓nthW_cons, ↓z_bn_geq, hn, ↓y_fl26x0, ↓z_bn_eql, ↓z_oy_guard, ↓z_grd, ↓z_dst_s, ↓z_dst_0, ↓z_grdD_b, hd, ↓z_gnt, ↓z_gtf, ↓z_yo_pick, ↓z_pick, ↓z_pick_b, ↓evW_const, ↓constW_bool, ↓z_gff, ↓y_fl26x1, hc, ↓z_gft, ↓z_blk_nrm, ↓constW_int, inR_i64, Int.reduceNeg, Int.reduceLE, ↓z_bn_add, ↓wrW_i64, ↓z_lp_nrm, ↓z_wk, ↓z_wkE_cons, D.int.injEq, true_and, ↓z_wkE_nil, and_true, ↓z_wkO_cons, List.cons.injEq, ↓z_wkO_nil]); (try simp only [Int.toNat_natCast])
          exact ⟨by omega, by omega, by omega, i + 1, ⟨by omega, hp'⟩, by omega, by omega, by rw [hg]⟩
    · (simp -dsimp only [↓z_y_seq, ↓z_y_region, ↓z_oy_plain, ↓z_yo_binOp, ↓z_binOp, ↓evW_tmp, ↓lkW_cons, ↓reduceIte, Nat.reduceEqDiff, ↓z_bn_lss, ↓z_put, Nat.reduceLT, ↓z_oy_nil, ↓z_seq_nrm, ↓z_y_cond, ↓z_cnd, ↓z_gdt, hlt, ↓z_y_skip, ↓z_y_block, ↓z_yo_move, ↓z_move, ↓z_yo_indexAddr, ↓z_indexAddr, ↓y_ty22, ↓z_elTy_sl, ↓y_sz26, ↓z_ix_sl, ↓z_yo_load, ↓z_load, ↓y_ty26, ↓z_agTy_st, ↓loadW_rop, ↓z_rd_t, hl2, ↓hsub, ↓z_yo_alloc, ↓z_alloc, ↓y_zr26, ↓z_new, ↓z_nm_cons, ↓z_nmC_cons, ↓z_mn'_int, ↓z_nmC_nil, and_self, ↓z_nm_nil, ↓z_pg_cons, ↓z_mn_agg, ↓z_mn_rop, ↓z_mn_int, ↓z_mn_bool, ↓z_mn_sl, ↓z_mn_yld, ↓z_pg_nil, ↓z_yo_assign, ↓z_assign, ↓z_yo_store, ↓z_store, ↓z_cl_agg, List.length_cons, List.length_nil, Nat.zero_add, Nat.reduceAdd, ↓z_store_ptr, ↓lkoW_cons, Nat.reduceLeDiff, ↓spsW_cons, ↓drW_cons, reduceCtorEq, Nat.reduceSub, ↓drW_nil, ↓z_cat_nil_r, ↓z_so_cons, ↓z_put_none, ↓z_yo_fieldAddr, ↓z_fieldAddr, ↓y_fl26x3, ↓y_sz3, ne_eq, not_false_eq_true, ↓z_fa_ptr, ↓y_ty3, ↓z_agTy_int, ↓loadW_ptr, ↓z_rd_f, ↓nthW_cons, ↓z_bn_geq, ht, ↓z_y_ret, ↓z_seq_rt, ↓z_blk_rt, ↓z_lp_rt, ↓z_end_rt, List.cons.injEq, D.int.injEq, true_and, and_true]); (try simp only [Int.toNat_natCast])
      refine ⟨by omega, by omega, ?_⟩
      unfold ofY
      rw [List.length_map, ofP_stop hp fun _ => ht]
  · (simp -dsimp only [↓z_y_seq, ↓z_y_region, ↓z_oy_plain, ↓z_yo_binOp, ↓z_binOp, ↓evW_tmp, ↓lkW_cons, ↓reduceIte, Nat.reduceEqDiff, ↓z_bn_lss, ↓z_put, Nat.reduceLT, ↓z_oy_nil, ↓z_seq_nrm, ↓z_y_cond, ↓z_cnd, ↓z_gdt, ↓z_y_skip, ↓z_y_block, ↓z_yo_move, ↓z_move, ↓z_yo_indexAddr, ↓z_indexAddr, ↓y_ty22, ↓z_elTy_sl, ↓y_sz26, ↓z_ix_sl, ↓z_yo_load, ↓z_load, ↓y_ty26, ↓z_agTy_st, ↓loadW_rop, ↓z_rd_t, ↓z_yo_alloc, ↓z_alloc, ↓y_zr26, ↓z_new, ↓z_nm_cons, ↓z_nmC_cons, ↓z_mn'_int, ↓z_nmC_nil, and_self, ↓z_nm_nil, ↓z_pg_cons, ↓z_mn_agg, ↓z_mn_rop, ↓z_mn_int, ↓z_mn_bool, ↓z_mn_sl, ↓z_mn_yld, ↓z_pg_nil, ↓z_yo_assign, ↓z_assign, ↓z_yo_store, ↓z_store, ↓z_cl_agg, ↓z_store_ptr, ↓lkoW_cons, Nat.zero_add, List.length_cons, List.length_nil, Nat.reduceAdd, Nat.reduceLeDiff, ↓spsW_cons, ↓drW_cons, reduceCtorEq, Nat.reduceSub, ↓drW_nil, ↓z_cat_nil_r, ↓z_so_cons, ↓z_put_none, ↓z_yo_fieldAddr, ↓z_fieldAddr, ↓y_fl26x3, ↓y_sz3, ne_eq, not_false_eq_true, ↓z_fa_ptr, ↓y_ty3, ↓z_agTy_int, ↓loadW_ptr, ↓z_rd_f, ↓nthW_cons, ↓z_y_ret, ↓z_seq_rt, ↓z_blk_rt, ↓z_lp_rt, ↓z_end_rt, List.cons.injEq, D.int.injEq, true_and, and_true, ↓y_fl26x0, ↓z_oy_guard, ↓z_grd, ↓z_dst_s, ↓z_dst_0, ↓y_fl26x2, ↓z_yo_callv, ↓z_evL_cons, ↓z_evL_nil, ↓z_yo_unOp, ↓z_unOp, ↓z_yo_pick, ↓z_pick, ↓y_fl26x1, ↓evW_const, ↓constW_bool, ↓z_blk_nrm, ↓constW_int, inR_i64, Int.reduceNeg, Int.reduceLE, ↓z_lp_nrm, z_sub, List.length_take, List.length_drop, ↓z_y_exit, ↓z_seq_ext, ↓z_lp_ext, ↓z_blk_ext, ↓z_end_nrm, z_ite]); (try simp only [Int.toNat_natCast])
    refine ⟨fun h => by omega, fun _ => ?_⟩
    have e : i = ps.length := by omega
    unfold ofY
    rw [List.length_map, ofP_stop hp (fun h => by omega)]
theorem ofY_len {x bf : Int} {ps : List Po} : (ofY x bf ps).length = (ofP x bf ps).length := by unfold ofY; rw [List.length_map]
theorem ofP_le {x bf : Int} {ps : List Po} : (ofP x bf ps).length ≤ ps.length := by
  have h1 := gP_le (x := x) 0 (bfL bf ps)
  have h2 : (bfL bf ps).length ≤ ps.length := (List.takeWhile_prefix _).length_le
  exact Nat.le_trans h1 h2
/-- What has come when i postings of the account have come. -/
def prt (x bf : Int) (ps : List Po) (i : Nat) : Int := (((ofP x bf ps).take i).map fun y => gotP x y.2).sum
theorem prt_s {x bf : Int} {ps : List Po} {i : Nat} (h : i < (ofP x bf ps).length) : prt x bf ps (i + 1) = prt x bf ps i + gotP x (ofP x bf ps)[i].2 := by
  unfold prt
  rw [show (ofP x bf ps).take (i + 1) = (ofP x bf ps).take i ++ [(ofP x bf ps)[i]] by simp, List.map_append, sum_app]
  simp
theorem prt_end {x bf : Int} {ps : List Po} (h : ps.Pairwise (·.t ≤ ·.t)) : prt x bf ps (ofP x bf ps).length = balT x (bf - 1) ps := by
  unfold prt; rw [List.take_length, ofP_sum h]
theorem prt_le {acc x bf : Int} {ps : List Po} (hb : BkOk acc ps) (i : Nat) : -10995116277760000 ≤ prt x bf ps i ∧ prt x bf ps i ≤ 10995116277760000 := by
  have h1 := sum_le (f := fun y : Nat × Po => gotP x y.2) (m := 1099511627776) (l := (ofP x bf ps).take i) fun y hy => by
    obtain ⟨h, e, _⟩ := ofP_mem (List.mem_of_mem_take hy)
    rw [e]; exact got_le (hb.ok _ (List.getElem_mem h))
  have h2 : ((ofP x bf ps).take i).length ≤ 10000 := Nat.le_trans (List.length_take_le' _ _) (Nat.le_trans ofP_le hb.len)
  have h3 : (((ofP x bf ps).take i).length : Int) * 1099511627776 ≤ 10000 * 1099511627776 := Int.mul_le_mul_of_nonneg_right (by omega) (by decide)
  unfold prt; omega
def balI (x bf : Int) (ps : List Po) (i : Nat) : St := ⟨20, 2, [], [(1000001, [.ptr 1 0]), (1, [.int .i64 (prt x bf ps i)])]⟩
set_option maxRecDepth 100000 in
set_option maxHeartbeats 4000000 in
theorem fn_balance (G : Glob) (acc x bf : Int) (ps : List Po) (hb : BkOk acc ps) : Fn G Tryd.prog 40 [.agg (bkC acc ps), .int .i64 x, .int .i64 bf] (.int .i64 (balT x (bf - 1) ps)) := by
  have hY := yd_of G acc x bf ps hb
  have hO := fn_of G acc x bf ps
  unfold bkC at hY hO ⊢
  refine Fn.mkR (c := _) Tryd.func40 rfl rfl Tryd.ntmps40 Tryd.results40 rfl ?_
  (simp -dsimp only [↓z_bodyR, List.length_cons, List.length_nil, Nat.zero_add, Nat.reduceAdd, Nat.reduceLeDiff, wfL, ↓z_r_seq, ↓z_r_region, ↓z_ops_plain, ↓z_box, ↓evW_tmp, ↓z_lk_env, ↓reduceIte, ↓z_cl_agg, ↓z_nmC_cons, ↓z_mn'_int, ↓z_mn'_sl, ↓z_nmC_nil, and_self, ↓z_new, ↓z_nm_nil, Nat.reduceLT, ↓z_pg_env, ↓z_mn_agg, ↓z_mn_int, ↓z_pg_env0, ↓z_put, ↓z_assign, ↓evW_const, ↓constW_int, inR_i64, Int.reduceNeg, Int.reduceLE, ↓z_ops_nil, ↓z_seq_nrm, ↓z_alloc, ↓y_zr3, ↓z_nm_cons, ↓z_pg_cons, ↓z_mn_ptr, reduceCtorEq, ↓z_pg_nil, ↓z_store, ↓lkW_cons, ↓y_sz3, ↓z_cl_int, ↓z_store_ptr, ↓lkoW_cons, ↓spsW_cons, ↓drW_cons, ↓drW_nil, ↓z_cat_nil_r, ↓z_so_cons, ↓z_put_none, ↓z_load, Nat.reduceEqDiff, ↓y_ty24, ↓y_sz24, ↓z_agTy_st, ↓loadW_ptr, ↓z_rd_t, ↓z_sub_c, ↓z_sub_nil, ↓z_move, ↓z_callv, ↓evW_func, ↓z_evL_cons, ↓z_evL_nil, ↓z_fun0, ↓z_coeL_cons, ↓z_coe_oag, ↓z_coeC_cons, ↓z_coeS_int, ↓z_coeS_sl, ↓z_coeC_nil, ↓z_coe_int, ↓z_coeL_nil, true_and])
  intro hd _ _
  refine call_fn hO fun _ => ?_
  (simp -dsimp only [↓z_put, Nat.reduceLT, ↓z_ops_nil, ↓z_seq_nrm, ↓z_r_block, ↓z_r_rng, ↓evW_tmp, ↓lkW_cons, ↓reduceIte, true_and])
  refine rng_mk _ [(7, .ptr 1 0)] (balI x bf ps) hY (fun ds hds => by obtain ⟨r, _, rfl⟩ := List.mem_map.1 hds; rfl) (by simp) ?_ ?_ ?_
  · unfold balI
    (simp -dsimp only [↓z_wkE_cons, ↓lkW_cons, Nat.reduceEqDiff, ↓reduceIte, Nat.zero_add, ↓z_wkE_nil, and_self, ↓z_noO_cons, not_false_eq_true, reduceCtorEq, ↓z_noO_nil, ↓z_snd_cons, ↓z_snd_nil, ↓z_wkO_cons, ↓lkoW_cons, List.cons.injEq, D.int.injEq, true_and, and_true, ↓z_wkO_nil]); (try simp only [Int.toNat_natCast, Nat.mul_one, Bool.or_false, Bool.false_or, Bool.or_self, Bool.or_true])
    rfl
  · intro i ds hi
    unfold ofY at hi
    rw [List.getElem?_map] at hi
    obtain ⟨y, hy, rfl⟩ := Option.map_eq_some_iff.1 hi
    obtain ⟨hil, rfl⟩ := List.getElem?_eq_some_iff.1 hy
    have hs := prt_s hil
    have h1 := prt_le (x := x) (bf := bf) hb (i + 1)
    unfold balI
    rw [hs] at h1 ⊢
    (simp -dsimp only [wfL, ↓z_region, ↓z_ops_plain, ↓z_assign, ↓evW_tmp, ↓z_par_cons, ↓z_par_nil, ↓z_put, Nat.reduceLT, ↓z_ops_nil, ↓z_onlyN, ↓z_block, ↓z_load, ↓lkW_cons, Nat.reduceEqDiff, ↓reduceIte, ↓y_ty3, ↓y_sz3, ↓z_agTy_int, ↓z_move, ↓z_binOp, ↓z_store, ↓z_put_none, ↓z_blk_nrm, ↓z_wkO_cons, ↓z_wkO_nil, and_true, true_and, ↓lkoW_cons, ↓z_zp_cons, ↓z_zp_nil, ↓z_store_ptr, Nat.zero_add, List.length_cons, List.length_nil, Nat.reduceLeDiff, ↓spsW_cons, ↓drW_cons, reduceCtorEq, ↓drW_nil, ↓z_cat_nil_r, ↓z_so_cons, ↓loadW_ptr, ↓z_rd_f, ↓nthW_cons, ↓z_bn_add, ↓wrW_i64, inR_i64, Int.reduceNeg, ↓z_cl_int, and_self]); (try simp only [Int.toNat_natCast, Nat.mul_one, Bool.or_false, Bool.false_or, Bool.or_self, Bool.or_true])
    exact fun _ _ => ⟨by omega, by omega⟩
  · rw [ofY_len]
    unfold balI
    rw [prt_end hb.srt]
    (simp -dsimp only [↓z_blk_nrm, ↓z_seq_nrm, ↓z_r_seq, ↓z_r_region, ↓z_ops_plain, ↓z_load, ↓evW_tmp, ↓y_ty3, ↓y_sz3, ↓z_agTy_int, ↓z_put, Nat.reduceLT, ↓z_assign, ↓lkW_cons, ↓reduceIte, ↓z_ops_nil, ↓z_r_ret, ↓z_end_rt, resLW, res1W, ↓z_coeL_cons, ↓z_coeL_nil, ↓z_pack1, true_and, ↓z_dro_cons, Nat.reduceEqDiff, ↓z_dro_nil, ↓lkoW_cons, ↓z_zp_cons, ↓z_zp_nil, ↓loadW_ptr, ↓z_rd_f, ↓nthW_cons, ↓z_coe_int]); (try simp only [Int.toNat_natCast, Nat.mul_one, Bool.or_false, Bool.false_or, Bool.or_self, Bool.or_true])
def balN (acc : Int) (ps : List Po) (x tick : Int) : Int := if chkB acc ps = 0 ∧ 0 ≤ x ∧ x < acc then balT x tick ps else 0
def balE (acc : Int) (ps : List Po) (x : Int) : Int := if chkB acc ps = 0 then (if 0 ≤ x ∧ x < acc then 0 else 8) else chkB acc ps
theorem bal_min {acc x tick : Int} {ps : List Po} (h : BkOk acc ps) : balT x (min tick 1000000 + 1 - 1) ps = balT x tick ps := by
  unfold balT
  congr 2
  refine List.filter_congr fun p hp => ?_
  have := (h.ok p hp).2
  unfold outP at this
  rw [decide_eq_decide]; omega
set_option maxRecDepth 100000 in
set_option maxHeartbeats 4000000 in
theorem fn_Balance (G : Glob) (acc x tick : Int) (ps : List Po) : Fn G Tryd.prog 18 [.agg (bkC acc ps), .int .i64 x, .int .i64 tick] (.tup [.int .i64 (balN acc ps x tick), .int .i64 (balE acc ps x)]) := by
  have hC := fn_Check G acc ps
  have hA := fn_account G acc x ps
  unfold bkC at hC hA ⊢
  unfold balN balE
  refine Fn.mk (c := _) Tryd.func18 rfl rfl Tryd.ntmps18 Tryd.results18 ?_
  (simp -dsimp only [bodyW, List.length_cons, List.length_nil, Nat.zero_add, Nat.reduceAdd, Nat.reduceLeDiff, wfL, ↓z_seq, ↓z_region, ↓z_ops_plain, ↓z_box, ↓evW_tmp, ↓z_lk_env, ↓reduceIte, ↓z_cl_agg, ↓z_nmC_cons, ↓z_mn'_int, ↓z_mn'_sl, ↓z_nmC_nil, and_self, ↓z_new, ↓z_nm_nil, Nat.reduceLT, ↓z_pg_env, ↓z_mn_agg, ↓z_mn_int, ↓z_pg_env0, ↓z_put, ↓z_assign, ↓evW_const, ↓constW_int, inR_i64, Int.reduceNeg, Int.reduceLE, ↓z_ops_nil, ↓z_seq_nrm, ↓z_load, ↓lkW_cons, Nat.reduceEqDiff, ↓y_ty24, ↓y_sz24, ↓z_agTy_st, ↓loadW_ptr, ↓lkoW_cons, ↓z_rd_t, ↓z_sub_c, ↓z_sub_nil, ↓z_callv, ↓evW_func, ↓z_evL_cons, ↓z_evL_nil, ↓z_fun0, ↓z_coeL_cons, ↓z_coe_oag, ↓z_coeC_cons, ↓z_coeS_int, ↓z_coeS_sl, ↓z_coeC_nil, ↓z_coeL_nil, true_and])
  intro hd _ ht
  have ht1 : -9223372036854775808 ≤ tick := ht.1.1
  refine call_fn hC fun _ => ?_
  (simp -dsimp only [↓z_put, Nat.reduceLT, ↓z_ops_plain, ↓z_assign, ↓evW_tmp, ↓lkW_cons, ↓reduceIte, ↓z_ops_nil, ↓z_seq_nrm, ↓z_seq, ↓z_region, ↓z_move, ↓z_binOp, ↓evW_const, ↓constW_int, inR_i64, Int.reduceNeg, Int.reduceLE, and_self, ↓z_bn_neq, ↓z_cond, ↓z_cnd, ↓z_gdt, ne_eq, Nat.reduceEqDiff, ↓z_ret, ↓z_seq_rt, ↓z_end_rt, resLW, res1W, Nat.zero_add, Nat.reduceAdd, ↓z_coeL_cons, ↓z_coeL_nil, ↓z_pack2, D.tup.injEq, List.cons.injEq, and_true, ↓z_coe_int, D.int.injEq, true_and, ↓z_skip, ↓z_load, ↓y_ty24, ↓y_sz24, ↓z_agTy_st, ↓loadW_ptr, ↓lkoW_cons, ↓z_rd_t, List.length_cons, List.length_nil, Nat.reduceLeDiff, ↓z_sub_c, ↓z_sub_nil, reduceCtorEq, ↓z_callv, ↓evW_func, ↓z_evL_cons, ↓z_evL_nil, ↓z_fun0, ↓z_coe_oag, ↓z_coeC_cons, ↓z_coeS_int, ↓z_coeS_sl, ↓z_coeC_nil, z_ite, Classical.not_not])
  refine ⟨fun c0 => ⟨by rw [if_neg (fun h => c0 h.1)], by rw [if_neg c0]⟩, fun c0 => ?_⟩
  refine call_fn hA fun _ => ?_
  (simp -dsimp only [↓z_put, Nat.reduceLT, ↓z_ops_plain, ↓z_unOp, ↓evW_tmp, ↓lkW_cons, ↓reduceIte, ↓z_un_not, ↓z_ops_nil, ↓z_seq_nrm, ↓z_cond, ↓z_cnd, ↓z_gnt, ↓z_gdf, ↓z_skip, ↓z_seq, ↓z_region, ↓z_load, Nat.reduceEqDiff, ↓y_ty24, ↓y_sz24, ↓z_agTy_st, ↓loadW_ptr, ↓lkoW_cons, ↓z_rd_t, Nat.zero_add, List.length_cons, List.length_nil, Nat.reduceAdd, Nat.reduceLeDiff, ↓z_sub_c, ↓z_sub_nil, ↓z_move, reduceCtorEq, ↓z_callb, ↓z_evL_cons, ↓evW_const, ↓constW_int, inR_i64, Int.reduceNeg, Int.reduceLE, and_self, ↓z_evL_nil, ↓z_min, ↓z_mx_min, ↓z_mx_nil, ↓z_binOp, ↓z_bn_add, ↓wrW_i64, ↓z_callv, ↓evW_func, ↓z_fun0, ↓z_coeL_cons, ↓z_coe_oag, ↓z_coeC_cons, ↓z_coeS_int, ↓z_coeS_sl, ↓z_coeC_nil, ↓z_coe_int, ↓z_coeL_nil, true_and, ↓z_assign, ↓z_ret, ↓z_seq_rt, ↓z_end_rt, resLW, res1W, ne_eq, ↓z_pack2, D.tup.injEq, List.cons.injEq, and_true, D.int.injEq, z_ite])
  have hb := chkB_ok c0
  have hB := fn_balance G acc x (min tick 1000000 + 1) ps hb
  rw [bal_min hb] at hB
  unfold bkC at hB
  refine ⟨fun c1 => ⟨by omega, ?_⟩, fun c1 => ⟨by rw [if_neg (by omega)], by rw [if_pos c0, if_neg c1]⟩⟩
  refine call_fn hB fun _ => ?_
  (simp -dsimp only [↓z_put, Nat.reduceLT, ↓z_ops_plain, ↓z_assign, ↓evW_tmp, ↓lkW_cons, ↓reduceIte, ↓evW_const, ↓constW_int, inR_i64, Int.reduceNeg, Int.reduceLE, and_self, ↓z_ops_nil, ↓z_seq_nrm, ↓z_ret, ↓z_end_rt, resLW, res1W, ne_eq, Nat.zero_add, Nat.reduceAdd, ↓z_coeL_cons, ↓z_coeL_nil, ↓z_pack2, D.tup.injEq, List.cons.injEq, and_true, ↓z_coe_int, D.int.injEq, true_and, Nat.reduceEqDiff]); (try simp only [Int.toNat_natCast, Nat.mul_one, Bool.or_false, Bool.false_or, Bool.or_self, Bool.or_true])
  exact ⟨by rw [if_pos ⟨c0, c1⟩], by rw [if_pos c0, if_pos c1]⟩
set_option maxRecDepth 100000 in
set_option maxHeartbeats 4000000 in
theorem fn_Got (G : Glob) (x : Int) (p : Po) (ha : 0 ≤ p.a ∧ p.a ≤ 1099511627776) : Fn G Tryd.prog 27 [.agg (poC p), .int .i64 x] (.int .i64 (gotP x p)) := by
  unfold poC gotP
  refine Fn.mk (c := _) Tryd.func27 rfl rfl Tryd.ntmps27 Tryd.results27 ?_
  (simp -dsimp only [bodyW, List.length_cons, List.length_nil, Nat.zero_add, Nat.reduceAdd, Nat.reduceLeDiff, wfL, ↓z_seq, ↓z_region, ↓z_ops_plain, ↓z_box, ↓evW_tmp, ↓z_lk_env, ↓reduceIte, ↓z_cl_agg, ↓z_nmC_cons, ↓z_mn'_int, ↓z_nmC_nil, and_self, ↓z_new, ↓z_nm_nil, Nat.reduceLT, ↓z_pg_env, ↓z_mn_agg, ↓z_mn_int, ↓z_pg_env0, ↓z_put, ↓z_assign, ↓evW_const, ↓constW_int, inR_i64, Int.reduceNeg, Int.reduceLE, ↓z_ops_nil, ↓z_seq_nrm, ↓z_fieldAddr, ↓lkW_cons, Nat.reduceEqDiff, ↓y_fl26x0, ↓y_sz3, ne_eq, reduceCtorEq, not_false_eq_true, ↓z_fa_ptr, ↓z_load, ↓y_ty3, ↓z_agTy_int, ↓loadW_ptr, ↓lkoW_cons, ↓z_rd_f, ↓nthW_cons, ↓z_move, ↓z_binOp, ↓z_bn_eql, ↓z_cond, ↓z_cnd, ↓z_gdt, ↓y_fl26x2, Nat.reduceSub, ↓z_bn_add, ↓wrW_i64, ↓y_fl26x1, ↓z_bn_sub, ↓z_ret, ↓z_end_rt, resLW, res1W, ↓z_coeL_cons, ↓z_coeL_nil, ↓z_pack1, ↓z_coe_int, D.int.injEq, true_and, ↓z_skip, z_ite]); (try simp only [Int.toNat_natCast, Nat.mul_one, Bool.or_false, Bool.false_or, Bool.or_self, Bool.or_true])
  intro _ _
  split <;> split <;> omega
theorem balT_s {x tick : Int} {ps : List Po} {i : Nat} (h : i < ps.length) : balT x tick (ps.take (i + 1)) = balT x tick (ps.take i) + if ps[i].t ≤ tick then gotP x ps[i] else 0 := by
  unfold balT
  rw [show ps.take (i + 1) = ps.take i ++ [ps[i]] by simp, List.filter_append, List.map_append, sum_app]
  congr 1
  split
  · rename_i g; rw [List.filter_cons_of_pos (by simpa using g)]; simp
  · rename_i g; rw [List.filter_cons_of_neg (by simpa using g)]; simp
theorem bk_take {acc : Int} {ps : List Po} (h : BkOk acc ps) (i : Nat) : BkOk acc (ps.take i) :=
  ⟨h.a1, h.a2, by rw [List.length_take]; have := h.len; omega, fun p hp => h.ok p (List.mem_of_mem_take hp), h.srt.sublist (List.take_sublist _ _)⟩
theorem ok_amt {acc : Int} {p : Po} (h : pOk acc p) : 0 ≤ p.a ∧ p.a ≤ 1099511627776 := by
  have := h.2; unfold outP at this; omega
set_option maxRecDepth 100000 in
set_option maxHeartbeats 4000000 in
theorem fn_refBalance (G : Glob) (acc x tick : Int) (ps : List Po) : Fn G Tryd.prog 19 [.agg (bkC acc ps), .int .i64 x, .int .i64 tick] (.agg [.int .i64 (balN acc ps x tick), .int .i64 (balE acc ps x)]) := by
  have hC := fn_refCheck G acc ps
  have hA := fn_In G acc x ps
  unfold bkC at hC hA ⊢
  unfold balN balE
  refine Fn.mk (c := _) Tryd.func19 rfl rfl Tryd.ntmps19 Tryd.results19 ?_
  (simp -dsimp only [bodyW, List.length_cons, List.length_nil, Nat.zero_add, Nat.reduceAdd, Nat.reduceLeDiff, wfL, ↓z_seq, ↓z_region, ↓z_ops_plain, ↓z_box, ↓evW_tmp, ↓z_lk_env, ↓reduceIte, ↓z_cl_agg, ↓z_nmC_cons, ↓z_mn'_int, ↓z_mn'_sl, ↓z_nmC_nil, and_self, ↓z_new, ↓z_nm_nil, Nat.reduceLT, ↓z_pg_env, ↓z_mn_agg, ↓z_mn_int, ↓z_pg_env0, ↓z_put, ↓z_alloc, ↓y_zr37, ↓z_nm_cons, ↓z_pg_cons, ↓z_mn_ptr, reduceCtorEq, ↓z_pg_nil, ↓z_ops_nil, ↓z_seq_nrm, ↓z_load, ↓lkW_cons, Nat.reduceEqDiff, ↓y_ty24, ↓y_sz24, ↓z_agTy_st, ↓loadW_ptr, ↓lkoW_cons, ↓z_rd_t, ↓z_sub_c, ↓z_sub_nil, ↓z_callv, ↓evW_func, ↓z_evL_cons, ↓z_evL_nil, ↓z_fun0, ↓z_coeL_cons, ↓z_coe_oag, ↓z_coeC_cons, ↓z_coeS_int, ↓z_coeS_sl, ↓z_coeC_nil, ↓z_coeL_nil, true_and])
  intro hd _ _
  refine call_fn hC fun _ => ?_
  (simp -dsimp only [↓z_put, Nat.reduceLT, ↓z_ops_plain, ↓z_assign, ↓evW_tmp, ↓lkW_cons, ↓reduceIte, ↓z_ops_nil, ↓z_seq_nrm, ↓z_seq, ↓z_region, ↓z_move, ↓z_binOp, ↓evW_const, ↓constW_int, inR_i64, Int.reduceNeg, Int.reduceLE, and_self, ↓z_bn_neq, ↓z_cond, ↓z_cnd, ↓z_gdt, ne_eq, Nat.reduceEqDiff, ↓z_build, ↓y_ty37, ↓z_blTy_st, ↓y_zr37, ↓z_bld_cons, ↓y_fl37x1, ↓y_sz28, ↓z_cl_int, List.length_cons, List.length_nil, Nat.zero_add, Nat.reduceAdd, Nat.reduceLeDiff, ↓spsW_cons, reduceCtorEq, Nat.reduceSub, ↓drW_cons, ↓drW_nil, ↓z_cat_nil_r, ↓z_bld_nil, ↓z_store, ↓y_sz37, ↓z_cl_oag, ↓z_store_ptr, ↓lkoW_cons, ↓z_so_cons, ↓z_put_none, ↓z_ret, ↓z_seq_rt, ↓z_end_rt, resLW, res1W, ↓z_agTy_st, ↓z_coeL_cons, ↓z_coeL_nil, ↓z_pack1, ↓loadW_ptr, ↓z_rd_t, ↓z_sub_c, ↓z_sub_nil, ↓z_coe_oag, ↓z_coeC_cons, ↓z_coeS_int, ↓z_coeC_nil, D.agg.injEq, List.cons.injEq, D.int.injEq, true_and, and_true, ↓z_skip, ↓z_load, ↓y_ty24, ↓y_sz24, ↓z_callv, ↓evW_func, ↓z_evL_cons, ↓z_evL_nil, ↓z_fun0, ↓z_coeS_sl, ↓z_coe_int, z_ite, Classical.not_not])
  refine ⟨fun c0 => ⟨by rfl, by rw [if_neg (fun h => c0 h.1)], by rw [if_neg c0]⟩, fun c0 => ?_⟩
  refine call_fn hA fun _ => ?_
  (simp -dsimp only [↓z_put, Nat.reduceLT, ↓z_ops_plain, ↓z_assign, ↓evW_tmp, ↓lkW_cons, ↓reduceIte, ↓z_ops_nil, ↓z_seq_nrm, ↓z_seq, ↓z_region, ↓z_move, ↓z_unOp, ↓z_un_not, ↓z_cond, ↓z_cnd, ↓z_gnt, ↓z_gdf, ↓z_skip, ↓evW_const, ↓constW_int, inR_i64, Int.reduceNeg, Int.reduceLE, and_self, ↓z_block, ↓z_loop, true_and, ↓z_build, ↓y_ty37, ↓z_blTy_st, ↓y_zr37, ↓z_bld_cons, ↓y_fl37x1, ↓y_sz28, ↓z_cl_int, List.length_cons, List.length_nil, Nat.zero_add, Nat.reduceAdd, Nat.reduceLeDiff, ↓spsW_cons, reduceCtorEq, Nat.reduceSub, ↓drW_cons, ↓drW_nil, ↓z_cat_nil_r, ↓z_bld_nil, ↓z_store, Nat.reduceEqDiff, ↓y_sz37, ↓z_cl_oag, ↓z_store_ptr, ↓lkoW_cons, ↓z_so_cons, ↓z_put_none, ↓z_ret, ↓z_seq_rt, ↓z_end_rt, resLW, res1W, ne_eq, ↓z_agTy_st, ↓z_coeL_cons, ↓z_coeL_nil, ↓z_pack1, ↓loadW_ptr, ↓z_rd_t, ↓z_sub_c, ↓z_sub_nil, ↓z_coe_oag, ↓z_coeC_cons, ↓z_coeS_int, ↓z_coeC_nil, D.agg.injEq, List.cons.injEq, D.int.injEq, and_true, z_ite])
  have hb := chkB_ok c0
  have hlen := hb.len
  refine ⟨fun c1 => ?_, fun c1 => ⟨by rfl, by rw [if_neg (by omega)], by rw [if_pos c0, if_neg c1]⟩⟩
  rw [if_pos ⟨c0, c1⟩, if_pos c0, if_pos c1]
  refine hold_intro ⟨[], Nat, fun i => ⟨49, 2, [(10, .int .i64 i), (9, .int .i64 (balT x tick (ps.take i))), (6, .ptr 1 0), (3, .ptr 0 0), (1, .int .i64 x), (2, .int .i64 tick)], [(1, [.int .i64 0, .int .i64 0]), (0, [.int .i64 acc, .sl 6 ps.length (List.flatMap poC ps)])]⟩, fun i => i ≤ ps.length, fun i => ps.length - i, ?_, ?_⟩
  · (simp -dsimp only [↓z_ad_nil, ↓z_wk, ↓z_wkE_cons, ↓lkW_cons, ↓reduceIte, D.int.injEq, true_and, Nat.reduceEqDiff, Nat.zero_add, reduceCtorEq, Nat.reduceAdd, ↓z_wkE_nil, and_self, and_true, ↓z_wkO_cons, ↓lkoW_cons, ↓z_wkO_nil]); (try simp only [Int.toNat_natCast, Nat.mul_one, Bool.or_false, Bool.false_or, Bool.or_self, Bool.or_true])
    exact ⟨0, by omega, rfl, rfl⟩
  intro i hi
  by_cases h : i < ps.length
  · have hl2 := po_len ps
    have hsub := fun k => po_sub h k
    have hlt : ((i : Int) < (ps.length : Int)) = True := eq_true (by omega)
    have hok := hb.ok _ (List.getElem_mem h)
    have hG := fn_Got G x ps[i] (ok_amt hok)
    unfold poC at hG
    have hs := balT_s (x := x) (tick := tick) h
    have h1 := bal_le (x := x) (tick := tick) (bk_take hb (i + 1))
    have hbs := bal_le (x := x) (tick := tick) (bk_take hb i)
    (simp -dsimp only [↓z_seq, ↓z_region, ↓z_ops_plain, ↓z_move, ↓evW_tmp, ↓lkW_cons, ↓reduceIte, ↓z_put, Nat.reduceLT, ↓z_fieldAddr, Nat.reduceEqDiff, ↓y_fl24x1, ↓y_sz22, ne_eq, reduceCtorEq, not_false_eq_true, ↓z_fa_ptr, ↓z_load, ↓y_ty22, ↓z_agTy_sl, ↓loadW_ptr, ↓lkoW_cons, ↓z_rd_f, ↓nthW_cons, Nat.zero_add, Nat.reduceSub, ↓z_callb, ↓z_evL_cons, ↓z_evL_nil, ↓z_len, ↓z_ln_sl, ↓z_binOp, ↓z_bn_lss, ↓z_ops_nil, ↓z_seq_nrm, ↓z_cond, ↓z_cnd, ↓z_gdt, hlt, ↓z_skip, ↓z_block, ↓z_indexAddr, ↓z_elTy_sl, ↓y_sz26, ↓z_ix_sl, ↓y_fl26x3, ↓y_sz3, ↓z_fa_rop, ↓y_ty3, ↓z_agTy_int, ↓loadW_rop, ↓y_ty26, ↓z_agTy_st, ↓z_rd_t, hl2, ↓hsub, ↓z_callv, ↓evW_func, ↓z_fun0, ↓z_coeL_cons, ↓z_coe_agg, ↓z_coe_int, ↓z_coeL_nil, true_and, ↓z_blk_nrm, ↓evW_const, ↓constW_int, inR_i64, Int.reduceNeg, Int.reduceLE, and_self, ↓z_bn_add, ↓wrW_i64, ↓z_assign, ↓z_lp_nrm, ↓z_wk, ↓z_wkE_cons, D.int.injEq, ↓z_wkE_nil, and_true, ↓z_wkO_cons, ↓z_wkO_nil, nth_po3, ↓z_bn_leq, z_ite]); (try simp only [Int.toNat_natCast])
    refine ⟨by omega, h, fun g => ⟨by omega, by omega, ?_⟩, fun g => ⟨by omega, i + 1, by omega, by omega, by omega, by rw [hs, if_neg g]; omega⟩⟩
    rw [if_pos g] at hs
    refine call_fn hG fun _ => ?_
    (simp -dsimp only [↓z_put, Nat.reduceLT, ↓z_ops_plain, ↓z_binOp, ↓evW_tmp, ↓lkW_cons, Nat.reduceEqDiff, ↓reduceIte, ↓z_bn_add, ↓wrW_i64, inR_i64, Int.reduceNeg, ↓z_assign, ↓z_ops_nil, ↓z_blk_nrm, ↓z_seq_nrm, ↓z_region, ↓z_move, ↓evW_const, ↓constW_int, Int.reduceLE, and_self, ↓z_lp_nrm, ↓z_wk, ↓z_wkE_cons, D.int.injEq, true_and, ↓z_wkE_nil, and_true, ↓z_wkO_cons, ↓lkoW_cons, reduceCtorEq, ↓z_wkO_nil]); (try simp only [Int.toNat_natCast, Nat.mul_one, Bool.or_false, Bool.false_or, Bool.or_self, Bool.or_true])
    exact ⟨by omega, by omega, i + 1, by omega, by omega, by omega, by omega⟩
  · have hlt : ((i : Int) < (ps.length : Int)) = False := eq_false (by omega)
    (simp -dsimp only [↓z_seq, ↓z_region, ↓z_ops_plain, ↓z_move, ↓evW_tmp, ↓lkW_cons, ↓reduceIte, ↓z_put, Nat.reduceLT, ↓z_fieldAddr, Nat.reduceEqDiff, ↓y_fl24x1, ↓y_sz22, ne_eq, reduceCtorEq, not_false_eq_true, ↓z_fa_ptr, ↓z_load, ↓y_ty22, ↓z_agTy_sl, ↓loadW_ptr, ↓lkoW_cons, ↓z_rd_f, ↓nthW_cons, Nat.zero_add, Nat.reduceSub, ↓z_callb, ↓z_evL_cons, ↓z_evL_nil, ↓z_len, ↓z_ln_sl, ↓z_binOp, ↓z_bn_lss, ↓z_ops_nil, ↓z_seq_nrm, ↓z_cond, ↓z_cnd, ↓z_gdt, hlt, ↓z_exit, ↓z_seq_ext, ↓z_lp_ext, ↓z_blk_ext, ↓z_build, ↓y_ty37, ↓z_blTy_st, ↓y_zr37, ↓z_bld_cons, ↓y_fl37x0, ↓y_sz3, ↓z_cl_int, List.length_cons, List.length_nil, Nat.reduceAdd, Nat.reduceLeDiff, ↓spsW_cons, ↓drW_cons, ↓catW_cons, ↓catW_nil, ↓z_bld_nil, ↓z_store, ↓y_sz37, ↓z_cl_oag, ↓z_store_ptr, ↓drW_nil, ↓z_cat_nil_r, ↓z_so_cons, ↓z_put_none, ↓z_ret, ↓z_end_rt, resLW, res1W, ↓z_agTy_st, ↓z_coeL_cons, ↓z_coeL_nil, ↓z_pack1, ↓z_rd_t, ↓z_sub_c, ↓z_sub_nil, ↓z_coe_oag, ↓z_coeC_cons, ↓z_coeS_int, ↓z_coeC_nil, D.agg.injEq, List.cons.injEq, D.int.injEq, true_and, and_true]); (try simp only [Int.toNat_natCast, Nat.mul_one, Bool.or_false, Bool.false_or, Bool.or_self, Bool.or_true])
    exact ⟨by rfl, by rw [List.take_of_length_le (by omega)]⟩
/-- The error of an account and ticks. -/
def spE (acc : Int) (ps : List Po) (x f t : Int) : Int := if chkB acc ps = 0 then (if 0 ≤ x ∧ x < acc then (if f < 0 ∨ t < f ∨ 1000001 < t then 1 else 0) else 8) else chkB acc ps
theorem spE_ok {acc : Int} {ps : List Po} {x f t : Int} (h : spE acc ps x f t = 0) : chkB acc ps = 0 ∧ 0 ≤ x ∧ x < acc ∧ 0 ≤ f ∧ f ≤ t ∧ t ≤ 1000001 := by
  unfold spE at h
  split at h
  · split at h
    · split at h
      · cases h
      · omega
    · cases h
  · rename_i g; exact absurd h g
set_option maxRecDepth 100000 in
set_option maxHeartbeats 4000000 in
theorem fn_span (G : Glob) (acc x f t : Int) (ps : List Po) : Fn G Tryd.prog 43 [.agg (bkC acc ps), .int .i64 x, .int .i64 f, .int .i64 t] (.int .i64 (spE acc ps x f t)) := by
  have hC := fn_Check G acc ps
  have hA := fn_account G acc x ps
  unfold bkC at hC hA ⊢
  unfold spE
  refine Fn.mk (c := _) Tryd.func43 rfl rfl Tryd.ntmps43 Tryd.results43 ?_
  (simp -dsimp only [bodyW, List.length_cons, List.length_nil, Nat.zero_add, Nat.reduceAdd, Nat.reduceLeDiff, wfL, ↓z_seq, ↓z_region, ↓z_ops_plain, ↓z_box, ↓evW_tmp, ↓z_lk_env, ↓reduceIte, ↓z_cl_agg, ↓z_nmC_cons, ↓z_mn'_int, ↓z_mn'_sl, ↓z_nmC_nil, and_self, ↓z_new, ↓z_nm_nil, Nat.reduceLT, ↓z_pg_env, ↓z_mn_agg, ↓z_mn_int, ↓z_pg_env0, ↓z_put, ↓z_assign, ↓evW_const, ↓constW_int, inR_i64, Int.reduceNeg, Int.reduceLE, ↓z_ops_nil, ↓z_seq_nrm, ↓z_load, ↓lkW_cons, Nat.reduceEqDiff, ↓y_ty24, ↓y_sz24, ↓z_agTy_st, ↓loadW_ptr, ↓lkoW_cons, ↓z_rd_t, ↓z_sub_c, ↓z_sub_nil, ↓z_callv, ↓evW_func, ↓z_evL_cons, ↓z_evL_nil, ↓z_fun0, ↓z_coeL_cons, ↓z_coe_oag, ↓z_coeC_cons, ↓z_coeS_int, ↓z_coeS_sl, ↓z_coeC_nil, ↓z_coeL_nil, true_and])
  intro hd _ _ _
  refine call_fn hC fun _ => ?_
  (simp -dsimp only [↓z_put, Nat.reduceLT, ↓z_ops_plain, ↓z_assign, ↓evW_tmp, ↓lkW_cons, ↓reduceIte, ↓z_ops_nil, ↓z_seq_nrm, ↓z_block, ↓z_seq, ↓z_region, ↓z_move, ↓z_binOp, ↓evW_const, ↓constW_int, inR_i64, Int.reduceNeg, Int.reduceLE, and_self, ↓z_bn_neq, ↓z_cond, ↓z_cnd, ↓z_gdt, ne_eq, Nat.reduceEqDiff, ↓z_ret, ↓z_blk_rt, ↓z_seq_rt, ↓z_end_rt, resLW, res1W, Nat.zero_add, Nat.reduceAdd, ↓z_coeL_cons, ↓z_coeL_nil, ↓z_pack1, ↓z_coe_int, D.int.injEq, true_and, ↓z_load, ↓y_ty24, ↓y_sz24, ↓z_agTy_st, ↓loadW_ptr, ↓lkoW_cons, ↓z_rd_t, List.length_cons, List.length_nil, Nat.reduceLeDiff, ↓z_sub_c, ↓z_sub_nil, reduceCtorEq, ↓z_callv, ↓evW_func, ↓z_evL_cons, ↓z_evL_nil, ↓z_fun0, ↓z_coe_oag, ↓z_coeC_cons, ↓z_coeS_int, ↓z_coeS_sl, ↓z_coeC_nil, z_ite, Classical.not_not])
  refine ⟨fun c0 => by rw [if_neg c0], fun c0 => ?_⟩
  rw [if_pos c0]
  refine call_fn hA fun _ => ?_
  (simp -dsimp only [↓z_put, Nat.reduceLT, ↓z_ops_plain, ↓z_unOp, ↓evW_tmp, ↓lkW_cons, ↓reduceIte, ↓z_un_not, ↓z_assign, ↓z_ops_nil, ↓z_seq_nrm, ↓z_cond, ↓z_cnd, ↓z_gnt, ↓z_gdf, ↓z_seq, ↓z_region, ↓z_move, Nat.reduceEqDiff, reduceCtorEq, Nat.zero_add, Nat.reduceAdd, ↓z_binOp, ↓evW_const, ↓constW_int, inR_i64, Int.reduceNeg, Int.reduceLE, and_self, ↓z_bn_lss, ↓z_gdt, ↓z_skip, ↓z_ret, ↓z_blk_rt, ↓z_seq_rt, ↓z_end_rt, resLW, res1W, ne_eq, ↓z_coeL_cons, ↓z_coeL_nil, ↓z_pack1, ↓z_coe_int, D.int.injEq, true_and, ↓z_blk_nrm, z_ite, ↓z_bn_gtr]); (try simp only [Int.toNat_natCast, Nat.mul_one, Bool.or_false, Bool.false_or, Bool.or_self, Bool.or_true])
  refine ⟨fun c1 => ?_, fun c1 => by rw [if_neg c1]⟩
  rw [if_pos c1]
  split <;> omega
set_option maxRecDepth 100000 in
set_option maxHeartbeats 4000000 in
theorem fn_refspan (G : Glob) (acc x f t : Int) (ps : List Po) : Fn G Tryd.prog 45 [.agg (bkC acc ps), .int .i64 x, .int .i64 f, .int .i64 t] (.int .i64 (spE acc ps x f t)) := by
  have hC := fn_refCheck G acc ps
  have hA := fn_In G acc x ps
  unfold bkC at hC hA ⊢
  unfold spE
  refine Fn.mk (c := _) Tryd.func45 rfl rfl Tryd.ntmps45 Tryd.results45 ?_
  (simp -dsimp only [bodyW, List.length_cons, List.length_nil, Nat.zero_add, Nat.reduceAdd, Nat.reduceLeDiff, wfL, ↓z_seq, ↓z_region, ↓z_ops_plain, ↓z_box, ↓evW_tmp, ↓z_lk_env, ↓reduceIte, ↓z_cl_agg, ↓z_nmC_cons, ↓z_mn'_int, ↓z_mn'_sl, ↓z_nmC_nil, and_self, ↓z_new, ↓z_nm_nil, Nat.reduceLT, ↓z_pg_env, ↓z_mn_agg, ↓z_mn_int, ↓z_pg_env0, ↓z_put, ↓z_assign, ↓evW_const, ↓constW_int, inR_i64, Int.reduceNeg, Int.reduceLE, ↓z_ops_nil, ↓z_seq_nrm, ↓z_load, ↓lkW_cons, Nat.reduceEqDiff, ↓y_ty24, ↓y_sz24, ↓z_agTy_st, ↓loadW_ptr, ↓lkoW_cons, ↓z_rd_t, ↓z_sub_c, ↓z_sub_nil, ↓z_callv, ↓evW_func, ↓z_evL_cons, ↓z_evL_nil, ↓z_fun0, ↓z_coeL_cons, ↓z_coe_oag, ↓z_coeC_cons, ↓z_coeS_int, ↓z_coeS_sl, ↓z_coeC_nil, ↓z_coeL_nil, true_and])
  intro hd _ _ _
  refine call_fn hC fun _ => ?_
  (simp -dsimp only [↓z_put, Nat.reduceLT, ↓z_ops_plain, ↓z_assign, ↓evW_tmp, ↓lkW_cons, ↓reduceIte, ↓z_ops_nil, ↓z_seq_nrm, ↓z_seq, ↓z_region, ↓z_move, ↓z_binOp, ↓evW_const, ↓constW_int, inR_i64, Int.reduceNeg, Int.reduceLE, and_self, ↓z_bn_neq, ↓z_cond, ↓z_cnd, ↓z_gdt, ne_eq, Nat.reduceEqDiff, ↓z_ret, ↓z_seq_rt, ↓z_end_rt, resLW, res1W, Nat.zero_add, Nat.reduceAdd, ↓z_coeL_cons, ↓z_coeL_nil, ↓z_pack1, ↓z_coe_int, D.int.injEq, true_and, ↓z_skip, ↓z_load, ↓y_ty24, ↓y_sz24, ↓z_agTy_st, ↓loadW_ptr, ↓lkoW_cons, ↓z_rd_t, List.length_cons, List.length_nil, Nat.reduceLeDiff, ↓z_sub_c, ↓z_sub_nil, reduceCtorEq, ↓z_callv, ↓evW_func, ↓z_evL_cons, ↓z_evL_nil, ↓z_fun0, ↓z_coe_oag, ↓z_coeC_cons, ↓z_coeS_int, ↓z_coeS_sl, ↓z_coeC_nil, z_ite, Classical.not_not])
  refine ⟨fun c0 => by rw [if_neg c0], fun c0 => ?_⟩
  rw [if_pos c0]
  refine call_fn hA fun _ => ?_
  (simp -dsimp only [↓z_put, Nat.reduceLT, ↓z_ops_plain, ↓z_assign, ↓evW_tmp, ↓lkW_cons, ↓reduceIte, ↓z_ops_nil, ↓z_seq_nrm, ↓z_seq, ↓z_region, ↓z_move, ↓z_unOp, ↓z_un_not, ↓z_cond, ↓z_cnd, ↓z_gnt, ↓z_gdf, ↓z_skip, Nat.reduceEqDiff, reduceCtorEq, Nat.zero_add, Nat.reduceAdd, ↓z_binOp, ↓evW_const, ↓constW_int, inR_i64, Int.reduceNeg, Int.reduceLE, and_self, ↓z_bn_lss, ↓z_ops_guard, ↓z_grd, ↓z_dst_s, ↓z_dst_0, ↓z_grdD_b, ↓z_gnf, ↓z_gft, ↓z_pick, ↓z_pick_b, ↓z_gff, ↓constW_bool, ↓z_gtf, ↓z_gtt, ↓z_ret, ↓z_seq_rt, ↓z_end_rt, resLW, res1W, Bool.not_false, ne_eq, ↓z_coeL_cons, ↓z_coeL_nil, ↓z_pack1, ↓z_coe_int, D.int.injEq, true_and, ↓z_bn_gtr, ↓z_gdt, z_ite]); (try simp only [Int.toNat_natCast, Nat.mul_one, Bool.or_false, Bool.false_or, Bool.or_self, Bool.or_true])
  refine ⟨fun c1 => ?_, fun c1 => by rw [if_neg c1]⟩
  rw [if_pos c1]
  split <;> omega
end Go.Abs

