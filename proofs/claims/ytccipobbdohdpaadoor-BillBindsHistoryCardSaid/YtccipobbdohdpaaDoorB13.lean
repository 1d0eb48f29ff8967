/-
  BILL, twelfth walks: a digest binds the history.
-/
import Derived.Test.YtccipobbdohdpaaDoorB9
namespace Go.Abs
open Go.Proofs
theorem dgE_0 {acc n : Int} {ps : List Po} (h : chkB acc ps = 0) (h0 : 0 ≤ n) (h1 : n ≤ ps.length) : dgE acc ps n = 0 ∧ dgD acc ps n = digF acc (ps.take n.toNat) := by
  have e : dgE acc ps n = 0 := by unfold dgE; rw [if_pos h, if_neg (by omega)]
  exact ⟨e, by unfold dgD; rw [if_pos e]⟩
theorem take_of_take {ps qs : List Po} {k n : Nat} (h : ps.take k = qs.take k) (hn : n ≤ k) : ps.take n = qs.take n := by
  have := congrArg (List.take n) h
  rw [List.take_take, List.take_take, Nat.min_eq_left hn] at this
  exact this
theorem tk16 {d : List UInt8} (h : d.length = 16) : List.take 16 (List.drop 0 d) = d := by rw [List.drop_zero, List.take_of_length_le (by omega)]
set_option maxRecDepth 100000 in
set_option maxHeartbeats 8000000 in
theorem fn_LawB (a b : Int) (ps qs : List Po) (m : Int) (hm : 0 ≤ m ∧ m ≤ 255) : Fn GH Tryd.prog 7 [.agg (bkC a ps), .agg (bkC b qs), .int .u8 m] (.bool true) := by
  have hC := fn_Check GH a ps
  have hC2 := fn_Check GH b qs
  unfold bkC at hC hC2 ⊢
  refine Fn.mk (c := _) Tryd.func7 rfl rfl Tryd.ntmps7 Tryd.results7 ?_
  (simp -dsimp only [bodyW, List.length_cons, List.length_nil, Nat.zero_add, Nat.reduceAdd, Nat.reduceLeDiff, wfL, ↓z_seq, ↓z_region, ↓z_ops_plain, ↓z_box, ↓evW_tmp, ↓z_lk_env, ↓reduceIte, ↓z_cl_agg, ↓z_nmC_cons, ↓z_mn'_int, ↓z_mn'_sl, ↓z_nmC_nil, and_self, ↓z_new, ↓z_nm_nil, Nat.reduceLT, ↓z_pg_env, ↓z_mn_agg, ↓z_mn_int, ↓z_pg_env0, ↓z_put, ↓lkW_cons, Nat.reduceEqDiff, reduceCtorEq, ↓z_nm_cons, ↓z_pg_cons, ↓z_mn_ptr, ↓z_pg_nil, ↓z_assign, ↓evW_const, ↓constW_bool, ↓z_ops_nil, ↓z_seq_nrm, ↓z_fieldAddr, ↓y_fl24x1, ↓y_sz22, ne_eq, not_false_eq_true, ↓z_fa_ptr, ↓z_load, ↓y_ty22, ↓z_agTy_sl, ↓loadW_ptr, ↓lkoW_cons, ↓z_rd_f, ↓nthW_cons, Nat.reduceSub, ↓z_callb, ↓z_evL_cons, ↓z_evL_nil, ↓z_len, ↓z_ln_sl, ↓z_binOp, ↓constW_int, inR_i64, Int.reduceNeg, Int.reduceLE, ↓z_bn_gtr, ↓z_move, ↓z_ops_guard, ↓z_grd, ↓z_dst_s, ↓z_dst_0, ↓z_grdD_b, ↓z_gdf, ↓z_gnf, ↓z_gft, ↓z_pick, ↓z_pick_b, ↓z_gnt, ↓z_gff, ↓z_gtf, ↓z_cond, ↓z_cnd, ↓z_gtt, ↓z_callv, ↓evW_func, ↓z_fun0, ↓z_coeL_nil, true_and, ↓y_ty24, ↓y_sz24, ↓z_agTy_st, ↓z_rd_t, ↓z_sub_c, ↓z_sub_nil, ↓z_coeL_cons, ↓z_coe_oag, ↓z_coeC_cons, ↓z_coeS_int, ↓z_coeS_sl, ↓z_coeC_nil, z_ite])
  intro hd hd2 _
  have hs : ∀ {S : St} {k : D → St → Prop} {bb : Bool} {u : Tag (callW GH Tryd.prog 8 [] bb S k)}, k (.bool true) S → hold (callW GH Tryd.prog 8 [] bb S k) u := fun hk => call_fnL fn_sanity rfl fun _ => hk
  refine ⟨fun g => hs (by (simp -dsimp only [↓z_put, Nat.reduceLT, ↓z_ops_plain, ↓z_assign, ↓evW_tmp, ↓lkW_cons, ↓reduceIte, ↓z_ops_nil, ↓z_seq_nrm, ↓z_ret, ↓z_seq_rt, ↓z_end_rt, resLW, res1W, Bool.not_false, Nat.zero_add, Nat.reduceAdd, ↓z_coeL_cons, ↓z_coeL_nil, ↓z_pack1, ↓z_coe_bool, and_self]); (try simp only [Int.toNat_natCast, Nat.mul_one, Bool.or_false, Bool.false_or, Bool.or_self, Bool.or_true])), fun g => ⟨fun g2 => hs (by (simp -dsimp only [↓z_put, Nat.reduceLT, ↓z_ops_plain, ↓z_assign, ↓evW_tmp, ↓lkW_cons, ↓reduceIte, ↓z_ops_nil, ↓z_seq_nrm, ↓z_ret, ↓z_seq_rt, ↓z_end_rt, resLW, res1W, Bool.not_false, Nat.zero_add, Nat.reduceAdd, ↓z_coeL_cons, ↓z_coeL_nil, ↓z_pack1, ↓z_coe_bool, and_self]); (try simp only [Int.toNat_natCast, Nat.mul_one, Bool.or_false, Bool.false_or, Bool.or_self, Bool.or_true])), fun g2 => call_fnL hC rfl fun _ => ?_⟩⟩
  (simp -dsimp only [↓z_put, Nat.reduceLT, ↓z_ops_guard, ↓z_grd, ↓z_dst_s, ↓z_dst_0, ↓lkW_cons, Nat.reduceEqDiff, ↓reduceIte, ↓z_grdD_b, ↓z_gff, ↓z_binOp, ↓evW_tmp, ↓evW_const, ↓constW_int, inR_i64, Int.reduceNeg, Int.reduceLE, and_self, ↓z_bn_neq, ↓z_ops_plain, ↓z_pick, ↓z_pick_b, ↓z_gft, ↓z_move, ↓z_gdf, ne_eq, ↓z_gnf, ↓z_gnt, ↓constW_bool, ↓z_gtf, ↓z_ops_nil, ↓z_seq_nrm, ↓z_cond, ↓z_cnd, ↓z_gtt, ↓z_seq, ↓z_region, ↓z_callv, ↓evW_func, ↓z_evL_nil, ↓z_fun0, ↓z_coeL_nil, true_and, ↓z_load, ↓y_ty24, ↓y_sz24, ↓z_agTy_st, ↓loadW_ptr, ↓lkoW_cons, Nat.zero_add, ↓z_rd_t, List.length_cons, List.length_nil, Nat.reduceAdd, Nat.reduceLeDiff, ↓z_sub_c, ↓z_sub_nil, ↓z_evL_cons, ↓z_coeL_cons, ↓z_coe_oag, ↓z_coeC_cons, ↓z_coeS_int, ↓z_coeS_sl, ↓z_coeC_nil, z_ite, Classical.not_not])
  refine ⟨fun c0 => hs (by (simp -dsimp only [↓z_put, Nat.reduceLT, ↓z_ops_plain, ↓z_assign, ↓evW_tmp, ↓lkW_cons, ↓reduceIte, ↓z_ops_nil, ↓z_seq_nrm, ↓z_ret, ↓z_seq_rt, ↓z_end_rt, resLW, res1W, Bool.not_false, ne_eq, Nat.zero_add, Nat.reduceAdd, ↓z_coeL_cons, ↓z_coeL_nil, ↓z_pack1, ↓z_coe_bool, and_self]); (try simp only [Int.toNat_natCast, Nat.mul_one, Bool.or_false, Bool.false_or, Bool.or_self, Bool.or_true])), fun c0 => call_fnL hC2 rfl fun _ => ?_⟩
  (simp -dsimp only [↓z_put, Nat.reduceLT, ↓z_ops_guard, ↓z_grd, ↓z_dst_s, ↓z_dst_0, ↓lkW_cons, Nat.reduceEqDiff, ↓reduceIte, ↓z_grdD_b, ↓z_gff, ↓z_binOp, ↓evW_tmp, ↓evW_const, ↓constW_int, inR_i64, Int.reduceNeg, Int.reduceLE, and_self, ↓z_bn_neq, ↓z_ops_plain, ↓z_pick, ↓z_pick_b, ↓z_gft, ↓z_move, ↓z_gdf, ne_eq, ↓z_gnf, ↓z_gnt, ↓constW_bool, ↓z_ops_nil, ↓z_seq_nrm, ↓z_cond, ↓z_cnd, ↓z_gtt, ↓z_seq, ↓z_region, ↓z_callv, ↓evW_func, ↓z_evL_nil, ↓z_fun0, ↓z_coeL_nil, true_and, ↓z_fieldAddr, ↓y_fl24x0, ↓y_sz3, reduceCtorEq, not_false_eq_true, ↓z_fa_ptr, ↓z_load, ↓y_ty3, ↓z_agTy_int, ↓loadW_ptr, ↓lkoW_cons, Nat.zero_add, ↓z_rd_f, ↓nthW_cons, ↓z_gdt, ↓z_skip, Nat.reduceAdd, ↓z_convert, ↓y_ty5, ↓z_cvt_int, ↓z_cv_int, ↓z_cvi_u8_i64, ↓y_fl24x1, ↓y_sz22, ↓y_ty22, ↓z_agTy_sl, Nat.reduceSub, ↓z_callb, ↓z_evL_cons, ↓z_len, ↓z_ln_sl, ↓z_min, ↓z_mx_min, ↓z_mx_nil, ↓z_bn_add, ↓wrW_i64, ↓z_bn_rem, ↓z_rem_i64, ↓z_assign, ↓y_ty24, ↓y_sz24, ↓z_agTy_st, ↓z_rd_t, List.length_cons, List.length_nil, Nat.reduceLeDiff, ↓z_sub_c, ↓z_sub_nil, ↓z_coeL_cons, ↓z_coe_oag, ↓z_coeC_cons, ↓z_coeS_int, ↓z_coeS_sl, ↓z_coeC_nil, ↓z_coe_int, z_ite, Classical.not_not])
  refine ⟨fun c1 => hs (by (simp -dsimp only [↓z_put, Nat.reduceLT, ↓z_ops_plain, ↓z_assign, ↓evW_tmp, ↓lkW_cons, ↓reduceIte, ↓z_ops_nil, ↓z_seq_nrm, ↓z_ret, ↓z_seq_rt, ↓z_end_rt, resLW, res1W, Bool.not_false, ne_eq, Nat.zero_add, Nat.reduceAdd, ↓z_coeL_cons, ↓z_coeL_nil, ↓z_pack1, ↓z_coe_bool, and_self]); (try simp only [Int.toNat_natCast, Nat.mul_one, Bool.or_false, Bool.false_or, Bool.or_self, Bool.or_true])), fun c1 => ⟨fun c2 => hs (by (simp -dsimp only [↓z_put, Nat.reduceLT, ↓z_ops_plain, ↓z_assign, ↓evW_tmp, ↓lkW_cons, ↓reduceIte, ↓z_ops_nil, ↓z_seq_nrm, ↓z_ret, ↓z_seq_rt, ↓z_end_rt, resLW, res1W, ne_eq, Nat.zero_add, Nat.reduceAdd, ↓z_coeL_cons, ↓z_coeL_nil, ↓z_pack1, ↓z_coe_bool, and_self]); (try simp only [Int.toNat_natCast, Nat.mul_one, Bool.or_false, Bool.false_or, Bool.or_self, Bool.or_true])), fun c2 => ?_⟩⟩
  have hl1 := (chkB_ok c0).len
  have hl2 := (chkB_ok c1).len
  refine ⟨by omega, by omega, ?_⟩
  have n0 : 0 ≤ m.tmod (min (ps.length : Int) (qs.length : Int) + 1) := Int.tmod_nonneg _ hm.1
  have n1 : m.tmod (min (ps.length : Int) (qs.length : Int) + 1) < min (ps.length : Int) (qs.length : Int) + 1 := Int.tmod_lt_of_pos _ (by omega)
  obtain ⟨n, hn⟩ : ∃ n : Nat, m.tmod (min (ps.length : Int) (qs.length : Int) + 1) = (n : Int) := ⟨(m.tmod (min (ps.length : Int) (qs.length : Int) + 1)).toNat, by omega⟩
  rw [hn] at n0 n1 ⊢
  have hD : ∀ i : Nat, i ≤ ps.length → Fn GH Tryd.prog 13 [.agg [.int .i64 a, .sl 6 ps.length (List.flatMap poC ps)], .int .i64 (i : Int)] (.tup [.agg ((digF a (ps.take i)).map bD), .int .i64 0]) := fun i h => by
    obtain ⟨e1, e2⟩ := dgE_0 (n := (i : Int)) c0 (by omega) (by omega)
    exact (fn_Digest a ps i).out (by rw [e1, e2, Int.toNat_natCast])
  have hE : ∀ i : Nat, i ≤ qs.length → Fn GH Tryd.prog 13 [.agg [.int .i64 b, .sl 6 qs.length (List.flatMap poC qs)], .int .i64 (i : Int)] (.tup [.agg ((digF b (qs.take i)).map bD), .int .i64 0]) := fun i h => by
    obtain ⟨e1, e2⟩ := dgE_0 (n := (i : Int)) c1 (by omega) (by omega)
    exact (fn_Digest b qs i).out (by rw [e1, e2, Int.toNat_natCast])
  have l1 := fun i => digF_len a (ps.take i)
  have l2 := fun i => digF_len b (qs.take i)
  have k1 := fun i => dg_tk (l1 i)
  have k2 := fun i => dg_tk (l2 i)
  have hF := fn_Fork GH a b ps qs
  have eE : frE a b ps qs = fkE ps qs := by unfold frE; rw [if_pos c0, if_pos c1, if_pos c2]
  have eK : frK a b ps qs = fkK ps qs := if_pos ⟨c0, c1, c2⟩
  rw [eE, eK] at hF
  unfold bkC at hF
  refine call_fn (hD n (by omega)) fun _ => ?_
  (simp -dsimp only [↓z_put, Nat.reduceLT, ↓z_ops_plain, ↓z_move, ↓evW_tmp, ↓lkW_cons, ↓reduceIte, ↓z_extract, ↓z_ex, ↓nthW_cons, Nat.reduceEqDiff, reduceCtorEq, Nat.reduceSub, ↓z_alloc, ↓y_zr40, ↓z_new, ↓z_nm_cons, ↓z_nmC_cons, ↓z_mn'_int, ↓z_mn'_sl, ↓z_nmC_nil, and_self, ↓z_nm_nil, Nat.zero_add, Nat.reduceAdd, ↓z_pg_cons, ↓z_mn_int, ↓z_mn_agg, ↓z_mn_tup, ↓z_mn_oag, ↓z_mnL_int, ↓z_mnL_sl, ↓z_mnL_nil, ↓z_mn_sl, ↓z_mn_ptr, ↓z_mn_bool, ↓z_pg_nil, ↓z_store, ↓y_sz40, ↓z_cl_agg, List.length_map, l1, ↓z_store_ptr, ↓lkoW_cons, List.length_cons, List.length_nil, Nat.reduceLeDiff, ↓spsW_cons, ↓drW_cons, ↓drW_nil, ↓z_cat_nil_r, ↓z_so_cons, ↓z_put_none, ↓z_assign, ↓z_ops_nil, ↓z_seq_nrm, ↓z_seq, ↓z_region, ↓z_load, ↓y_ty24, ↓y_sz24, ↓z_agTy_st, ↓loadW_ptr, ↓z_rd_t, ↓z_sub_c, ↓z_sub_nil, ↓z_callv, ↓evW_func, ↓z_evL_cons, ↓z_evL_nil, ↓z_fun0, ↓z_coeL_cons, ↓z_coe_oag, ↓z_coeC_cons, ↓z_coeS_int, ↓z_coeS_sl, ↓z_coeC_nil, ↓z_coe_int, ↓z_coeL_nil, true_and])
  refine call_fn (hE n (by omega)) fun _ => ?_
  (simp -dsimp only [↓z_put, Nat.reduceLT, ↓z_ops_plain, ↓z_move, ↓evW_tmp, ↓lkW_cons, ↓reduceIte, ↓z_extract, ↓z_ex, ↓nthW_cons, Nat.reduceEqDiff, reduceCtorEq, Nat.reduceSub, ↓z_alloc, ↓y_zr40, ↓z_new, ↓z_nm_cons, ↓z_nmC_bytes, ↓z_nmC_cons, ↓z_mn'_int, ↓z_mn'_sl, ↓z_nmC_nil, and_self, ↓z_nm_nil, Nat.zero_add, Nat.reduceAdd, ↓z_pg_cons, ↓z_mn_int, ↓z_mn_agg, ↓z_mn_tup, ↓z_mn_oag, ↓z_mnL_int, ↓z_mnL_sl, ↓z_mnL_nil, ↓z_mn_ptr, ↓z_mn_sl, ↓z_mn_bool, ↓z_pg_nil, ↓z_store, ↓y_sz40, ↓z_cl_agg, List.length_map, l2, ↓z_store_ptr, ↓lkoW_cons, List.length_cons, List.length_nil, Nat.reduceLeDiff, ↓spsW_cons, ↓drW_cons, ↓drW_nil, ↓z_cat_nil_r, ↓z_so_cons, ↓z_put_none, ↓z_assign, ↓z_ops_nil, ↓z_seq_nrm, ↓z_seq, ↓z_region, ↓z_binOp, ↓evW_const, ↓constW_int, inR_i64, Int.reduceNeg, Int.reduceLE, ↓z_bn_neq, ↓z_ops_guard, ↓z_grd, ↓z_dst_s, ↓z_dst_0, ↓z_grdD_b, ↓z_gdf, ne_eq, not_true_eq_false, ↓z_gff, ↓z_pick, ↓z_pick_b, ↓z_gft, ↓z_cond, ↓z_cnd, ↓z_gdt, ↓z_skip, ↓z_load, ↓y_ty24, ↓y_sz24, ↓z_agTy_st, ↓loadW_ptr, ↓z_rd_t, ↓z_sub_c, ↓z_sub_nil, ↓z_callv, ↓evW_func, ↓z_evL_cons, ↓z_evL_nil, ↓z_fun0, ↓z_coeL_cons, ↓z_coe_oag, ↓z_coeC_cons, ↓z_coeS_int, ↓z_coeS_sl, ↓z_coeC_nil, ↓z_coeL_nil, true_and])
  refine call_fn hF fun _ => ?_
  have fin : ps.take n = qs.take n → digF a (ps.take n) = digF b (qs.take n) := fun h => by rw [h, c2]
  cases hk : fkN ps qs with
  | none =>
    have e := fk_none hk
    have e1 : fkE ps qs = 8 := by unfold fkE; rw [hk]
    rw [e1]
    (simp -dsimp only [↓z_put, Nat.reduceLT, ↓z_ops_plain, ↓z_move, ↓evW_tmp, ↓lkW_cons, ↓reduceIte, ↓z_extract, ↓z_ex, ↓nthW_cons, Nat.reduceEqDiff, reduceCtorEq, Nat.reduceSub, ↓z_assign, ↓z_ops_nil, ↓z_seq_nrm, ↓z_seq, ↓z_region, ↓z_binOp, ↓evW_const, ↓constW_int, inR_i64, Int.reduceNeg, Int.reduceLE, and_self, ↓z_bn_eql, ↓z_ops_guard, ↓z_grd, ↓z_dst_s, ↓z_dst_0, ↓z_grdD_b, ↓z_gdf, ↓z_gnf, ↓z_gft, ↓z_grdD_u, ↓z_pick, ↓z_pick_b, ↓z_gnt, ↓z_gff, ↓constW_bool, ↓z_cond, ↓z_cnd, ↓z_gtt, ↓z_callv, ↓evW_func, ↓z_evL_nil, ↓z_fun0, ↓z_coeL_nil, true_and])
    refine hs ?_
    (simp -dsimp only [↓z_put, Nat.reduceLT, ↓z_ops_plain, ↓z_move, ↓evW_tmp, ↓lkW_cons, ↓reduceIte, ↓z_ops_guard, ↓z_grd, ↓z_dst_s, ↓z_dst_0, ↓z_grdD_b, ↓z_gtt, ↓z_load, Nat.reduceEqDiff, ↓y_ty40, ↓y_sz40, ↓z_agTy_arr, ↓loadW_ptr, ↓lkoW_cons, Nat.zero_add, Nat.reduceAdd, ↓z_rd_t, List.length_map, l1, Nat.reduceLeDiff, ↓z_sub_map, l2, ↓z_binOp, ↓z_bn_ooql, ↓z_allP_bytes, ↓y_fk40, ↓kdM_bytes, List.length_take, List.length_drop, Nat.reduceSub, ↓z_pick, ↓z_pick_b, ↓z_assign, ↓z_ops_nil, ↓z_seq_nrm, ↓z_ret, ↓z_seq_rt, ↓z_end_rt, resLW, res1W, Bool.not_false, ne_eq, not_true_eq_false, ↓z_coeL_cons, ↓z_coeL_nil, ↓z_pack1, ↓z_coe_bool, D.bool.injEq, true_and]); (try simp only [Int.toNat_natCast, Nat.mul_one, Bool.or_false, Bool.false_or, Bool.or_self, Bool.or_true])
    refine ⟨by rfl, by rfl, ?_⟩
    rw [tk16 (l1 _), tk16 (l2 _), fin (by rw [e])]
    exact (eqB_iff _ _).2 rfl
  | some k =>
    obtain ⟨e1, e2⟩ := fk_n hk
    obtain ⟨f1, f2, f3, f4⟩ := fk_some hk
    rw [e1, e2]
    by_cases hkn : n ≤ k
    · have hge : ((n : Int) ≤ (k : Int)) = True := eq_true (by omega)
      (simp -dsimp only [↓z_put, Nat.reduceLT, ↓z_ops_plain, ↓z_move, ↓evW_tmp, ↓lkW_cons, ↓reduceIte, ↓z_extract, ↓z_ex, ↓nthW_cons, Nat.reduceEqDiff, reduceCtorEq, Nat.reduceSub, ↓z_assign, ↓z_ops_nil, ↓z_seq_nrm, ↓z_seq, ↓z_region, ↓z_binOp, ↓evW_const, ↓constW_int, inR_i64, Int.reduceNeg, Int.reduceLE, and_self, ↓z_bn_eql, ↓z_ops_guard, ↓z_grd, ↓z_dst_s, ↓z_dst_0, ↓z_grdD_b, ↓z_gdf, Int.reduceEq, ↓z_gff, ↓z_gdt, ↓z_gtt, ↓z_bn_geq, ↓z_pick, ↓z_pick_b, ↓z_gft, ↓z_cond, ↓z_cnd, hge, ↓z_callv, ↓evW_func, ↓z_evL_nil, ↓z_fun0, ↓z_coeL_nil, true_and])
      refine hs ?_
      (simp -dsimp only [↓z_put, Nat.reduceLT, ↓z_ops_plain, ↓z_move, ↓evW_tmp, ↓lkW_cons, ↓reduceIte, ↓z_ops_guard, ↓z_grd, ↓z_dst_s, ↓z_dst_0, ↓z_grdD_b, ↓z_gtt, ↓z_load, Nat.reduceEqDiff, ↓y_ty40, ↓y_sz40, ↓z_agTy_arr, ↓loadW_ptr, ↓lkoW_cons, Nat.zero_add, Nat.reduceAdd, ↓z_rd_t, List.length_map, l1, Nat.reduceLeDiff, ↓z_sub_map, l2, ↓z_binOp, ↓z_bn_ooql, ↓z_allP_bytes, ↓y_fk40, ↓kdM_bytes, List.length_take, List.length_drop, Nat.reduceSub, ↓z_pick, ↓z_pick_b, ↓z_assign, ↓z_ops_nil, ↓z_seq_nrm, ↓z_ret, ↓z_seq_rt, ↓z_end_rt, resLW, res1W, Int.reduceEq, ne_eq, not_true_eq_false, ↓z_coeL_cons, ↓z_coeL_nil, ↓z_pack1, ↓z_coe_bool, D.bool.injEq, true_and]); (try simp only [Int.toNat_natCast, Nat.mul_one, Bool.or_false, Bool.false_or, Bool.or_self, Bool.or_true])
      refine ⟨by rfl, by rfl, ?_⟩
      rw [tk16 (l1 _), tk16 (l2 _), fin (take_of_take f1 hkn)]
      exact (eqB_iff _ _).2 rfl
    · have hge : ((n : Int) ≤ (k : Int)) = False := eq_false (by omega)
      have hk0 : ((k : Int) < 0) = False := eq_false (by omega)
      (simp -dsimp only [↓z_put, Nat.reduceLT, ↓z_ops_plain, ↓z_move, ↓evW_tmp, ↓lkW_cons, ↓reduceIte, ↓z_extract, ↓z_ex, ↓nthW_cons, Nat.reduceEqDiff, reduceCtorEq, Nat.reduceSub, ↓z_assign, ↓z_ops_nil, ↓z_seq_nrm, ↓z_seq, ↓z_region, ↓z_binOp, ↓evW_const, ↓constW_int, inR_i64, Int.reduceNeg, Int.reduceLE, and_self, ↓z_bn_eql, ↓z_ops_guard, ↓z_grd, ↓z_dst_s, ↓z_dst_0, ↓z_grdD_b, ↓z_gdf, Int.reduceEq, ↓z_gff, ↓z_gdt, ↓z_gtt, ↓z_bn_geq, ↓z_pick, ↓z_pick_b, ↓z_gft, ↓z_cond, ↓z_cnd, hge, ↓z_skip, ↓z_bn_neq, ne_eq, not_true_eq_false, ↓z_bn_lss, hk0, ↓z_block, ↓z_loop, true_and])
      refine hold_intro ⟨[], Nat, fun i => ⟨182, 4, [(14, .int .i64 i), (10, .ptr 3 0), (8, .ptr 2 0), (7, .int .i64 n), (6, .bool false), (4, .ptr 1 0), (3, .ptr 0 0)], [(3, (digF b (qs.take n)).map bD), (2, (digF a (ps.take n)).map bD), (1, [.int .i64 b, .sl 6 qs.length (List.flatMap poC qs)]), (0, [.int .i64 a, .sl 6 ps.length (List.flatMap poC ps)])]⟩, fun i => i ≤ n ∧ (k < i → digF a (ps.take i) ≠ digF b (qs.take i)), fun i => n - i, ?_, ?_⟩
      · (simp -dsimp only [↓z_ad_nil, ne_eq, ↓z_wk, ↓z_wkE_cons, ↓lkW_cons, ↓reduceIte, D.int.injEq, true_and, Nat.reduceEqDiff, Nat.zero_add, Nat.reduceAdd, ↓z_wkE_nil, and_self, and_true, ↓z_wkO_cons, ↓lkoW_cons, reduceCtorEq, ↓z_wkO_nil]); (try simp only [Int.toNat_natCast, Nat.mul_one, Bool.or_false, Bool.false_or, Bool.or_self, Bool.or_true])
        exact ⟨0, ⟨by omega, fun h => by omega⟩, rfl⟩
      rintro i ⟨hi, hx⟩
      by_cases h : i < n
      · have hlt : ((i : Int) < (n : Int)) = True := eq_true (by omega)
        have hip : i < ps.length := by omega
        have hiq : i < qs.length := by omega
        have hsub := fun c => po_sub hip c
        have hsub2 := fun c => po_sub hiq c
        have hp2 := po_len ps
        have hq2 := po_len qs
        have nx : ((i : Int) + 1) = ((i + 1 : Nat) : Int) := by omega
        (simp -dsimp only [↓z_seq, ↓z_region, ↓z_ops_plain, ↓z_move, ↓evW_tmp, ↓lkW_cons, ↓reduceIte, ↓z_put, Nat.reduceLT, Nat.reduceEqDiff, ↓z_binOp, ↓z_bn_lss, ↓z_ops_nil, ↓z_seq_nrm, ↓z_cond, ↓z_cnd, ↓z_gdt, hlt, ↓z_skip, ↓z_block, ↓z_load, ↓y_ty24, ↓y_sz24, ↓z_agTy_st, ↓loadW_ptr, ↓lkoW_cons, reduceCtorEq, ↓z_rd_t, Nat.zero_add, List.length_cons, List.length_nil, Nat.reduceAdd, Nat.reduceLeDiff, ↓z_sub_c, ↓z_sub_nil, ↓z_callv, ↓evW_func, ↓z_evL_cons, ↓z_evL_nil, ↓z_fun0, ↓z_coeL_cons, ↓z_coe_oag, ↓z_coeC_cons, ↓z_coeS_int, ↓z_coeS_sl, ↓z_coeC_nil, ↓z_coe_int, ↓z_coeL_nil, true_and]); (try simp only [Int.toNat_natCast, Nat.mul_one, Bool.or_false, Bool.false_or, Bool.or_self, Bool.or_true])
        refine call_fn (hD i (by omega)) fun _ => ?_
        (simp -dsimp only [↓z_put, Nat.reduceLT, ↓z_ops_plain, ↓z_move, ↓evW_tmp, ↓lkW_cons, ↓reduceIte, ↓z_extract, ↓z_ex, ↓nthW_cons, Nat.reduceEqDiff, reduceCtorEq, Nat.reduceSub, ↓z_alloc, ↓y_zr40, ↓z_new, ↓z_nm_cons, ↓z_nmC_bytes, ↓z_nmC_cons, ↓z_mn'_int, ↓z_mn'_sl, ↓z_nmC_nil, and_self, ↓z_nm_nil, ↓z_pg_cons, ↓z_mn_int, ↓z_mn_agg, ↓z_mn_tup, ↓z_mn_oag, ↓z_mnL_int, ↓z_mnL_sl, ↓z_mnL_nil, ↓z_mn_bool, ↓z_mn_ptr, ↓z_pg_nil, ↓z_store, ↓y_sz40, ↓z_cl_agg, List.length_map, l1, ↓z_store_ptr, ↓lkoW_cons, Nat.zero_add, List.length_cons, List.length_nil, Nat.reduceAdd, Nat.reduceLeDiff, ↓spsW_cons, ↓drW_cons, ↓drW_nil, ↓z_cat_nil_r, ↓z_so_cons, ↓z_put_none, ↓z_assign, ↓z_ops_nil, ↓z_seq_nrm, ↓z_seq, ↓z_region, ↓z_load, ↓y_ty24, ↓y_sz24, ↓z_agTy_st, ↓loadW_ptr, ↓z_rd_t, ↓z_sub_c, ↓z_sub_nil, ↓z_callv, ↓evW_func, ↓z_evL_cons, ↓z_evL_nil, ↓z_fun0, ↓z_coeL_cons, ↓z_coe_oag, ↓z_coeC_cons, ↓z_coeS_int, ↓z_coeS_sl, ↓z_coeC_nil, ↓z_coe_int, ↓z_coeL_nil, true_and])
        refine call_fn (hE i (by omega)) fun _ => ?_
        (simp -dsimp only [↓z_put, Nat.reduceLT, ↓z_ops_plain, ↓z_move, ↓evW_tmp, ↓lkW_cons, ↓reduceIte, ↓z_extract, ↓z_ex, ↓nthW_cons, Nat.reduceEqDiff, reduceCtorEq, Nat.reduceSub, ↓z_alloc, ↓y_zr40, ↓z_new, ↓z_nm_cons, ↓z_nmC_bytes, ↓z_nmC_cons, ↓z_mn'_int, ↓z_mn'_sl, ↓z_nmC_nil, and_self, ↓z_nm_nil, Nat.reduceAdd, ↓z_pg_cons, ↓z_mn_int, ↓z_mn_agg, ↓z_mn_tup, ↓z_mn_oag, ↓z_mnL_int, ↓z_mnL_sl, ↓z_mnL_nil, ↓z_mn_ptr, ↓z_mn_bool, ↓z_pg_nil, ↓z_store, ↓y_sz40, ↓z_cl_agg, List.length_map, l2, ↓z_store_ptr, ↓lkoW_cons, Nat.zero_add, List.length_cons, List.length_nil, Nat.reduceLeDiff, ↓spsW_cons, ↓drW_cons, ↓drW_nil, ↓z_cat_nil_r, ↓z_so_cons, ↓z_put_none, ↓z_assign, ↓z_ops_nil, ↓z_seq_nrm, ↓z_seq, ↓z_region, ↓z_load, ↓y_ty24, ↓y_sz24, ↓z_agTy_st, ↓loadW_ptr, ↓z_rd_t, ↓z_sub_c, ↓z_sub_nil, ↓z_binOp, ↓evW_const, ↓constW_int, inR_i64, Int.reduceNeg, Int.reduceLE, ↓z_bn_add, ↓wrW_i64, ↓z_callv, ↓evW_func, ↓z_evL_cons, ↓z_evL_nil, ↓z_fun0, ↓z_coeL_cons, ↓z_coe_oag, ↓z_coeC_cons, ↓z_coeS_int, ↓z_coeS_sl, ↓z_coeC_nil, ↓z_coe_int, ↓z_coeL_nil, true_and])
        refine ⟨by omega, ?_⟩
        rw [nx]
        refine call_fn (hD (i + 1) (by omega)) fun _ => ?_
        (simp -dsimp only [↓z_put, Nat.reduceLT, ↓z_ops_plain, ↓z_move, ↓evW_tmp, ↓lkW_cons, ↓reduceIte, ↓z_extract, ↓z_ex, ↓nthW_cons, Nat.reduceEqDiff, reduceCtorEq, Nat.reduceSub, ↓z_alloc, ↓y_zr40, ↓z_new, ↓z_nm_cons, ↓z_nmC_bytes, ↓z_nmC_cons, ↓z_mn'_int, ↓z_mn'_sl, ↓z_nmC_nil, and_self, ↓z_nm_nil, Nat.reduceAdd, ↓z_pg_cons, ↓z_mn_int, ↓z_mn_agg, ↓z_mn_tup, ↓z_mn_oag, ↓z_mnL_int, ↓z_mnL_sl, ↓z_mnL_nil, ↓z_mn_ptr, ↓z_mn_bool, ↓z_pg_nil, ↓z_store, ↓y_sz40, ↓z_cl_agg, List.length_map, l1, ↓z_store_ptr, ↓lkoW_cons, Nat.zero_add, List.length_cons, List.length_nil, Nat.reduceLeDiff, ↓spsW_cons, ↓drW_cons, ↓drW_nil, ↓z_cat_nil_r, ↓z_so_cons, ↓z_put_none, ↓z_assign, ↓z_ops_nil, ↓z_seq_nrm, ↓z_seq, ↓z_region, ↓z_load, ↓y_ty24, ↓y_sz24, ↓z_agTy_st, ↓loadW_ptr, ↓z_rd_t, ↓z_sub_c, ↓z_sub_nil, ↓z_binOp, ↓evW_const, ↓constW_int, inR_i64, Int.reduceNeg, Int.reduceLE, ↓z_bn_add, ↓wrW_i64, ↓z_callv, ↓evW_func, ↓z_evL_cons, ↓z_evL_nil, ↓z_fun0, ↓z_coeL_cons, ↓z_coe_oag, ↓z_coeC_cons, ↓z_coeS_int, ↓z_coeS_sl, ↓z_coeC_nil, ↓z_coe_int, ↓z_coeL_nil, true_and])
        refine ⟨by omega, ?_⟩
        rw [nx]
        refine call_fn (hE (i + 1) (by omega)) fun _ => ?_
        (simp -dsimp only [↓z_put, Nat.reduceLT, ↓z_ops_plain, ↓z_move, ↓evW_tmp, ↓lkW_cons, ↓reduceIte, ↓z_extract, ↓z_ex, ↓nthW_cons, Nat.reduceEqDiff, reduceCtorEq, Nat.reduceSub, ↓z_alloc, ↓y_zr40, ↓z_new, ↓z_nm_cons, ↓z_nmC_bytes, ↓z_nmC_cons, ↓z_mn'_int, ↓z_mn'_sl, ↓z_nmC_nil, and_self, ↓z_nm_nil, Nat.reduceAdd, ↓z_pg_cons, ↓z_mn_int, ↓z_mn_agg, ↓z_mn_tup, ↓z_mn_oag, ↓z_mnL_int, ↓z_mnL_sl, ↓z_mnL_nil, ↓z_mn_ptr, ↓z_mn_bool, ↓z_pg_nil, ↓z_store, ↓y_sz40, ↓z_cl_agg, List.length_map, l2, ↓z_store_ptr, ↓lkoW_cons, Nat.zero_add, List.length_cons, List.length_nil, Nat.reduceLeDiff, ↓spsW_cons, ↓drW_cons, ↓drW_nil, ↓z_cat_nil_r, ↓z_so_cons, ↓z_put_none, ↓z_assign, ↓z_ops_nil, ↓z_seq_nrm, ↓z_seq, ↓z_region, ↓z_binOp, ↓evW_const, ↓constW_int, inR_i64, Int.reduceNeg, Int.reduceLE, ↓z_bn_neq, ↓z_ops_guard, ↓z_grd, ↓z_dst_s, ↓z_dst_0, ↓z_grdD_b, ↓z_gdf, ne_eq, not_true_eq_false, ↓z_gff, ↓z_pick, ↓z_pick_b, ↓z_gft, ↓z_cond, ↓z_cnd, ↓z_gdt, ↓z_skip, ↓z_region_d, ↓y_mix, true_and])
        refine rgn_q (by decide +kernel) rfl ?_
        (simp -dsimp only [↓z_ops_plain, ↓z_load, ↓evW_tmp, ↓lkW_cons, Nat.reduceEqDiff, ↓reduceIte, ↓y_ty40, ↓y_sz40, ↓z_agTy_arr, ↓loadW_ptr, ↓lkoW_cons, Nat.reduceAdd, ↓z_rd_t, Nat.zero_add, List.length_map, l1, Nat.reduceLeDiff, ↓z_sub_map, ↓z_put, Nat.reduceLT, l2, ↓z_binOp, ↓z_bn_ooqn, ↓z_allP_bytes, ↓y_fk40, ↓kdM_bytes, List.length_take, List.length_drop, Nat.reduceSub, ↓z_move, ↓z_ops_guard, ↓z_grd, ↓z_dst_s, ↓z_dst_0, ↓z_grdD_b, ↓z_gnf, ↓z_geqt, ↓z_fieldAddr, ↓y_fl24x1, ↓y_sz22, ne_eq, reduceCtorEq, not_false_eq_true, ↓z_fa_ptr, ↓z_gff, ↓y_ty22, ↓z_agTy_sl, ↓z_rd_f, ↓nthW_cons, ↓z_indexAddr, ↓z_elTy_sl, ↓y_sz26, ↓z_ix_sl, ↓y_ty26, ↓z_agTy_st, ↓loadW_rop, hp2, ↓hsub, hq2, ↓hsub2, ↓z_bn_aneq, ↓y_fk26, ↓z_pick, ↓z_pick_b, ↓z_gft, ↓z_gnt, ↓z_geqf, List.cons.injEq, D.int.injEq, true_and, and_true, ↓z_gtt, ↓z_bn_ooql, ↓z_ops_nil, ↓z_seq_nrm, ↓z_cond, ↓z_cnd, ↓z_seq, ↓z_region, ↓z_callv, ↓evW_func, ↓z_evL_nil, ↓z_fun0, ↓z_coeL_nil, ↓z_skip, ↓z_blk_nrm, ↓evW_const, ↓constW_int, inR_i64, Int.reduceNeg, Int.reduceLE, and_self, ↓z_bn_add, ↓wrW_i64, ↓z_assign, ↓z_lp_nrm, ↓z_wk, ↓z_wkE_cons, ↓z_wkE_nil, ↓z_wkO_cons, ↓z_wkO_nil, ↓z_gtf, ↓constW_bool]); (try simp only [Int.toNat_natCast])
        have nxt : (digF a (ps.take (i + 1)) ≠ digF b (qs.take (i + 1)) ∨ i < k) → (i + 1 ≤ n ∧ (k < i + 1 → digF a (ps.take (i + 1)) ≠ digF b (qs.take (i + 1)))) := fun h' => ⟨by omega, fun h3 => h'.resolve_right (by omega)⟩
        have ne16 : ∀ {x y : List UInt8}, x.length = 16 → y.length = 16 → ¬ List.map bD (List.take 16 (List.drop 0 x)) = List.map bD (List.take 16 (List.drop 0 y)) → x ≠ y := fun h1 h2 h3 e => h3 (by rw [e])
        have eq16 : ∀ {x y : List UInt8}, x.length = 16 → y.length = 16 → List.map bD (List.take 16 (List.drop 0 x)) = List.map bD (List.take 16 (List.drop 0 y)) → x = y := fun h1 h2 h3 => by
          rw [tk16 h1, tk16 h2] at h3; exact map_bD_inj h3
        refine ⟨by rfl, by rfl, fun e1 => ?_, fun e1 => ?_⟩
        · refine ⟨by omega, by omega, by omega, by omega, by omega, by omega, po_kd .., po_kd .., fun hne => ?_, fun heq => ?_⟩
          · exact ⟨by rfl, by rfl, fun e => hs (by (simp -dsimp only [↓z_put, Nat.reduceLT, ↓z_ops_plain, ↓z_assign, ↓evW_tmp, ↓lkW_cons, ↓reduceIte, ↓z_ops_nil, ↓z_seq_nrm, ↓z_ret, ↓z_blk_rt, ↓z_seq_rt, ↓z_lp_rt, ↓z_end_rt, resLW, res1W, Nat.zero_add, ne_eq, not_true_eq_false, Nat.reduceAdd, ↓z_coeL_cons, ↓z_coeL_nil, ↓z_pack1, ↓z_coe_bool, and_self]); (try simp only [Int.toNat_natCast, Nat.mul_one, Bool.or_false, Bool.false_or, Bool.or_self, Bool.or_true])), fun e => ⟨by omega, i + 1, nxt (.inl (ne16 (l1 _) (l2 _) e)), by omega, by omega⟩⟩
          · refine ⟨by omega, i + 1, nxt (.inr ?_), by omega, by omega⟩
            have hpq := eq16 (l1 i) (l2 i) e1
            rcases Nat.lt_trichotomy i k with h1 | h1 | h1
            · exact h1
            · subst h1
              exact absurd (by rw [List.getElem?_eq_getElem hip, List.getElem?_eq_getElem hiq, po_eq.2 heq]) f4
            · exact absurd hpq (hx h1)
        · exact ⟨by rfl, by rfl, fun e => hs (by (simp -dsimp only [↓z_put, Nat.reduceLT, ↓z_ops_plain, ↓z_assign, ↓evW_tmp, ↓lkW_cons, ↓reduceIte, ↓z_ops_nil, ↓z_seq_nrm, ↓z_ret, ↓z_blk_rt, ↓z_seq_rt, ↓z_lp_rt, ↓z_end_rt, resLW, res1W, Bool.not_false, ne_eq, not_true_eq_false, Nat.reduceAdd, ↓z_coeL_cons, ↓z_coeL_nil, ↓z_pack1, ↓z_coe_bool, and_self]); (try simp only [Int.toNat_natCast, Nat.mul_one, Bool.or_false, Bool.false_or, Bool.or_self, Bool.or_true])), fun e => ⟨by omega, i + 1, nxt (.inl (ne16 (l1 _) (l2 _) e)), by omega, by omega⟩⟩
      · have hlt : ((i : Int) < (n : Int)) = False := eq_false (by omega)
        (simp -dsimp only [↓z_seq, ↓z_region, ↓z_ops_plain, ↓z_move, ↓evW_tmp, ↓lkW_cons, ↓reduceIte, ↓z_put, Nat.reduceLT, Nat.reduceEqDiff, ↓z_binOp, ↓z_bn_lss, ↓z_ops_nil, ↓z_seq_nrm, ↓z_cond, ↓z_cnd, ↓z_gdt, hlt, ↓z_exit, ↓z_seq_ext, ↓z_lp_ext, ↓z_blk_ext, ↓z_callv, ↓evW_func, ↓z_evL_nil, ↓z_fun0, ↓z_coeL_nil, true_and]); (try simp only [Int.toNat_natCast, Nat.mul_one, Bool.or_false, Bool.false_or, Bool.or_self, Bool.or_true])
        refine hs ?_
        (simp -dsimp only [↓z_put, Nat.reduceLT, ↓z_ops_plain, ↓z_move, ↓evW_tmp, ↓lkW_cons, ↓reduceIte, ↓z_ops_guard, ↓z_grd, ↓z_dst_s, ↓z_dst_0, ↓z_grdD_b, ↓z_gtt, ↓z_load, Nat.reduceEqDiff, ↓y_ty40, ↓y_sz40, ↓z_agTy_arr, ↓loadW_ptr, ↓lkoW_cons, ↓z_rd_t, Nat.zero_add, List.length_map, l1, Nat.reduceLeDiff, ↓z_sub_map, l2, ↓z_binOp, ↓z_bn_ooqn, ↓z_allP_bytes, ↓y_fk40, ↓kdM_bytes, List.length_take, List.length_drop, Nat.reduceSub, ↓z_pick, ↓z_pick_b, ↓z_assign, ↓z_ops_nil, ↓z_seq_nrm, ↓z_ret, ↓z_end_rt, resLW, res1W, ↓z_coeL_cons, ↓z_coeL_nil, ↓z_pack1, ↓z_coe_bool, D.bool.injEq, true_and]); (try simp only [Int.toNat_natCast, Nat.mul_one, Bool.or_false, Bool.false_or, Bool.or_self, Bool.or_true])
        have ei : i = n := by omega
        have hne := hx (by omega)
        rw [ei] at hne
        refine ⟨by rfl, by rfl, ?_⟩
        rw [tk16 (l1 _), tk16 (l2 _)]
        have hn2 : eqB ((digF a (ps.take n)).map bD) ((digF b (qs.take n)).map bD) = false := Bool.eq_false_iff.2 fun h => hne (map_bD_inj ((eqB_iff _ _).1 h))
        exact congrArg (!·) hn2
end Go.Abs

