/-
  HASH, fourteenth walks: the laws, second part.
-/
import Derived.Test.YtokenlcigigamaaDoorH13
namespace Go.Abs
open Go.Proofs
theorem tagB_inj {a b : Int} (ha0 : 0 ≤ a) (ha : a ≤ 255) (hb0 : 0 ≤ b) (hb : b ≤ 255) (h : tagB a = tagB b) : a = b := by
  have h := congrArg UInt8.toNat h
  unfold tagB at h
  rw [UInt8.toNat_ofNat', UInt8.toNat_ofNat'] at h
  omega
theorem inpL_inj {a b : Int} (ha0 : 0 ≤ a) (ha : a ≤ 255) (hb0 : 0 ≤ b) (hb : b ≤ 255) {p q : List (List UInt8)} (h : inpL a p = inpL b q) : a = b ∧ p = q := by
  unfold inpL at h
  rw [List.cons.injEq] at h
  exact ⟨tagB_inj ha0 ha hb0 hb h.1, encs_inj h.2⟩
theorem map_bD {x y : List UInt8} (h : x.map bD = y.map bD) : x = y := (List.map_inj_right (fun a b h => bD_inj h)).1 h
theorem cl_eq {a b : Int} {p q : List (List UInt8)} (la : (ofD a p).length = 16) (lb : (ofD b q).length = 16) : eqB (List.map bD (List.take 16 (ofD a p))) (List.map bD (List.take 16 (ofD b q))) = decide (List.take 16 (sha (inpL a p)) = List.take 16 (sha (inpL b q))) := by
  rw [List.take_of_length_le (by omega), List.take_of_length_le (by omega), Bool.eq_iff_iff, eqB_iff, decide_eq_true_eq]
  exact ⟨fun h => map_bD h, fun h => congrArg _ h⟩
theorem few_flat' : ∀ {l : List (List UInt8)}, (∀ x ∈ l, x.length ≤ 400) → l.flatten.length ≤ l.length * 400
  | [], _ => by simp
  | x :: l, h => by
    have h1 := few_flat' (l := l) fun y hy => h y (by simp [hy])
    have h2 := h x (by simp)
    rw [List.flatten_cons, List.length_append, List.length_cons]
    omega
theorem few_flat {l : List (List UInt8)} (h : fewP l) : l.flatten.length ≤ 4800 := by
  have a := few_flat' h.2
  have b : l.length ≤ 12 := h.1
  omega
theorem mnL_str (id : Nat) (s : Str) (A B : Prop) : mnL id (strC s) A B = A := by
  rw [mnL_eq, if_neg]
  simp only [List.any_eq_true, not_exists, not_and]
  intro d hd
  have := flS_str s d hd
  cases d <;> simp_all [flS, mnS]
theorem mac_eq {k : List UInt8} {p q : List (List UInt8)} (la : (macD k p).length = 16) (lb : (macD k q).length = 16) : eqB (List.map bD (List.take 16 (macD k p))) (List.map bD (List.take 16 (macD k q))) = decide (List.take 16 (hmacL k (msgL p)) = List.take 16 (hmacL k (msgL q))) := by
  rw [List.take_of_length_le (by omega), List.take_of_length_le (by omega), Bool.eq_iff_iff, eqB_iff, decide_eq_true_eq]
  exact ⟨fun h => map_bD h, fun h => congrArg _ h⟩
theorem inpL_len {a : Int} {p : List (List UInt8)} (h : fewP p) : (inpL a p).length ≤ 1000000001 := by
  unfold inpL; rw [List.length_cons]; have := few_enc h; omega
set_option maxRecDepth 100000 in
set_option maxHeartbeats 8000000 in
theorem fn_LawSep (a b : Int) (ha0 : 0 ≤ a) (ha : a ≤ 255) (hb0 : 0 ≤ b) (hb : b ≤ 255) (p q : List (List UInt8)) : Fn GH Tryd.prog 6 [.agg [.int .u8 a, .int .u8 b], .sl 1 p.length (p.map D.str), .sl 1 q.length (q.map D.str)] (.bool true) := by
  refine Fn.mk (c := _) Tryd.func6 rfl rfl Tryd.ntmps6 Tryd.results6 ?_
  (simp -dsimp only [bodyW, List.length_cons, List.length_nil, Nat.zero_add, Nat.reduceAdd, Nat.reduceLeDiff, wfL, ↓z_seq, ↓z_region, ↓z_ops_plain, ↓z_box, ↓evW_tmp, ↓z_lk_env, ↓reduceIte, ↓z_cl_agg, ↓z_nmC_cons, ↓z_mn'_int, ↓z_nmC_nil, and_self, ↓z_new, ↓z_nm_nil, Nat.reduceLT, ↓z_pg_env, ↓z_mn_agg, ↓z_mn_sl, ↓z_pg_env0, ↓z_put, ↓z_assign, ↓evW_const, ↓constW_bool, ↓z_ops_nil, ↓z_seq_nrm, ↓z_callv, ↓evW_func, ↓z_evL_nil, ↓z_fun0, ↓z_coeL_nil, true_and])
  intro _ _ _
  refine call_fn fn_sanity fun _ => ?_
  (simp -dsimp only [↓z_put, Nat.reduceLT, ↓z_ops_plain, ↓z_assign, ↓evW_tmp, ↓lkW_cons, ↓reduceIte, ↓z_ops_nil, ↓z_seq_nrm, ↓z_seq, ↓z_region, ↓z_move, Nat.reduceEqDiff, reduceCtorEq, Nat.zero_add, ↓z_callv, ↓evW_func, ↓z_evL_cons, ↓z_evL_nil, ↓z_fun0, ↓z_coeL_cons, ↓z_coe_sl, ↓z_coeL_nil, true_and])
  refine call_fn (fn_Few GH p) fun _ => ?_
  (simp -dsimp only [↓z_put, Nat.reduceLT, ↓z_ops_plain, ↓z_unOp, ↓evW_tmp, ↓lkW_cons, ↓reduceIte, ↓z_un_not, ↓z_move, ↓z_ops_guard, ↓z_grd, ↓z_dst_s, ↓z_dst_0, ↓z_grdD_b, ↓z_gnf, ↓z_gdt, Nat.reduceEqDiff, reduceCtorEq, Nat.zero_add, Nat.reduceAdd, ↓z_gff, ↓z_callv, ↓evW_func, ↓z_evL_cons, ↓z_evL_nil, ↓z_fun0, ↓z_coeL_cons, ↓z_coe_sl, ↓z_coeL_nil, true_and, ↓z_gft, ↓z_pick, ↓z_pick_b, ↓z_gnt, ↓evW_const, ↓constW_bool, ↓z_ops_nil, ↓z_seq_nrm, ↓z_cond, ↓z_cnd, ↓z_gtt, ↓z_seq, ↓z_region, ↓z_assign, ↓z_ret, ↓z_seq_rt, ↓z_end_rt, resLW, res1W, Bool.not_false, ↓z_pack1, ↓z_coe_bool, and_self, z_ite])
  refine ⟨fun h1 => ?_, fun _ => trivial⟩
  refine call_fn (fn_Few GH q) fun _ => ?_
  (simp -dsimp only [↓z_put, Nat.reduceLT, ↓z_ops_guard, ↓z_grd, ↓z_dst_s, ↓z_dst_0, ↓lkW_cons, Nat.reduceEqDiff, ↓reduceIte, ↓z_grdD_b, ↓z_gff, ↓z_unOp, ↓evW_tmp, ↓z_un_not, ↓z_ops_plain, ↓z_pick, ↓z_pick_b, ↓z_gft, ↓z_ops_nil, ↓z_seq_nrm, ↓z_cond, ↓z_cnd, ↓z_gnt, ↓z_gdf, ↓z_skip, ↓z_seq, ↓z_region, ↓z_indexAddr, ↓evW_const, ↓constW_int, inR_i64, Int.reduceNeg, Int.reduceLE, and_self, ↓y_ty45, ↓z_elTy_arr, ↓y_sz5, ↓z_ix_ptr, ↓z_load, ↓y_ty5, ↓z_agTy_int, ↓loadW_ptr, ↓lkoW_cons, ↓z_rd_f, ↓nthW_cons, Int.reduceToNat, Nat.mul_one, Nat.zero_add, reduceCtorEq, Nat.reduceSub, ↓z_binOp, ↓z_bn_eql, ↓z_move, ↓z_gdt, ↓z_gtt, Nat.reduceAdd, ↓z_callv, ↓evW_func, ↓z_evL_cons, ↓z_evL_nil, ↓z_fun0, ↓z_coeL_cons, ↓z_coe_sl, ↓z_coeL_nil, true_and, ↓z_gtf, ↓constW_bool, ↓z_assign, ↓z_convert, ↓y_ty3, ↓z_cvt_int, ↓z_cv_int, ↓z_cvi_u8_i64, ↓z_coe_int, z_ite, ↓z_ret, ↓z_seq_rt, ↓z_end_rt, resLW, res1W, ↓z_pack1, ↓z_coe_bool]); (try simp only [Int.toNat_natCast, Nat.mul_one, Bool.or_false, Bool.false_or, Bool.or_self, Bool.or_true])
  have ia := fn_Input GH a p
  have hd : 0 < ((2 : Nat) : Int) ∧ 1 < ((2 : Nat) : Int) := by decide
  refine ⟨fun h2 => ⟨hd.1, hd.2, fun hab => ?_, fun hab => ⟨hd.1, ?_⟩⟩, fun _ => trivial⟩
  · refine call_fnL (fn_rSame GH p q) rfl fun _ => ?_
    (simp -dsimp only [↓z_put, Nat.reduceLT, ↓z_ops_plain, ↓z_pick, ↓evW_tmp, ↓lkW_cons, Nat.reduceEqDiff, ↓reduceIte, ↓z_pick_b, ↓z_gtt, ↓z_assign, ↓z_ops_nil, ↓z_seq_nrm, ↓z_seq, ↓z_region, ↓z_indexAddr, ↓evW_const, ↓constW_int, inR_i64, Int.reduceNeg, Int.reduceLE, and_self, ↓y_ty45, ↓z_elTy_arr, ↓y_sz5, ↓z_ix_ptr, ↓z_load, ↓y_ty5, ↓z_agTy_int, ↓loadW_ptr, ↓lkoW_cons, ↓z_rd_f, ↓nthW_cons, Int.reduceToNat, Nat.mul_one, Nat.zero_add, ↓z_convert, ↓y_ty3, ↓z_cvt_int, ↓z_cv_int, ↓z_cvi_u8_i64, ↓z_move, reduceCtorEq, ↓z_callv, ↓evW_func, ↓z_evL_cons, ↓z_evL_nil, ↓z_fun0, ↓z_coeL_cons, ↓z_coe_int, ↓z_coe_sl, ↓z_coeL_nil, true_and]); (try simp only [Int.toNat_natCast, Nat.mul_one, Bool.or_false, Bool.false_or, Bool.or_self, Bool.or_true])
    refine ⟨hd.1, ?_⟩
    refine call_fn (ia (few_p h1) (few_enc h1)) fun _ => ?_
    (simp -dsimp only [↓z_put, Nat.reduceLT, ↓z_ops_plain, ↓z_assign, ↓evW_tmp, ↓lkW_cons, ↓reduceIte, ↓z_ops_nil, ↓z_seq_nrm, ↓z_seq, ↓z_region, ↓z_indexAddr, Nat.reduceEqDiff, ↓evW_const, ↓constW_int, inR_i64, Int.reduceNeg, Int.reduceLE, and_self, ↓y_ty45, ↓z_elTy_arr, ↓y_sz5, ↓z_ix_ptr, ↓z_load, ↓y_ty5, ↓z_agTy_int, ↓loadW_ptr, ↓lkoW_cons, ↓z_rd_f, ↓nthW_cons, Int.reduceToNat, Nat.mul_one, Nat.zero_add, reduceCtorEq, Nat.reduceSub, ↓z_convert, ↓y_ty3, ↓z_cvt_int, ↓z_cv_int, ↓z_cvi_u8_i64, ↓z_move, Nat.reduceAdd, ↓z_callv, ↓evW_func, ↓z_evL_cons, ↓z_evL_nil, ↓z_fun0, ↓z_coeL_cons, ↓z_coe_int, ↓z_coe_sl, ↓z_coeL_nil, true_and]); (try simp only [Int.toNat_natCast, Nat.mul_one, Bool.or_false, Bool.false_or, Bool.or_self, Bool.or_true])
    refine ⟨hd.2, ?_⟩
    refine call_fn (fn_Input GH b q (few_p h2) (few_enc h2)) fun _ => ?_
    (simp -dsimp only [↓z_put, Nat.reduceLT, ↓z_ops_plain, ↓z_assign, ↓evW_tmp, ↓lkW_cons, ↓reduceIte, ↓z_ops_nil, ↓z_seq_nrm, ↓z_seq, ↓z_region, ↓z_move, Nat.reduceEqDiff, ↓z_cond, ↓z_cnd, ↓z_gdt, ↓z_ops_guard, ↓z_grd, ↓z_dst_s, ↓z_dst_0, ↓z_grdD_b, ↓z_gtt, ↓z_convert, ↓y_ty22, ↓y_ty9, ↓z_cvt_bs, ↓y_ty5, ↓z_u8, ↓z_cv_bs_sl, ↓bsW_map, ↓z_binOp, ↓z_bn_seql, ↓z_pick, ↓z_pick_b, ↓z_ret, ↓z_seq_rt, ↓z_end_rt, resLW, res1W, Int.reduceToNat, Nat.mul_one, Nat.zero_add, Nat.reduceAdd, ↓z_coeL_cons, ↓z_coeL_nil, ↓z_pack1, ↓z_coe_bool, D.bool.injEq, decide_eq_true_eq, true_and, ↓z_skip, ↓z_indexAddr, ↓evW_const, ↓constW_int, inR_i64, Int.reduceNeg, Int.reduceLE, and_self, ↓y_ty45, ↓z_elTy_arr, ↓y_sz5, ↓z_ix_ptr, ↓z_load, ↓z_agTy_int, ↓loadW_ptr, ↓lkoW_cons, ↓z_rd_f, ↓nthW_cons, ↓y_ty3, ↓z_cvt_int, ↓z_cv_int, ↓z_cvi_u8_i64, reduceCtorEq, ↓z_callv, ↓evW_func, ↓z_evL_cons, ↓z_evL_nil, ↓z_fun0, ↓z_coe_int, ↓z_coe_sl, z_ite]); (try simp only [Int.toNat_natCast, Nat.mul_one, Bool.or_false, Bool.false_or, Bool.or_self, Bool.or_true])
    refine ⟨fun hpq => ?_, fun hpq => ?_⟩
    · rw [hab, hpq]
    · skip
      refine ⟨hd.1, ?_⟩
      have la := ofD_len a p
      have lb := ofD_len b q
      refine call_fnL (fn_Of a p (few_p h1) (few_enc h1)) (flS_bytes _) fun _ => ?_
      (simp -dsimp only [↓z_put, Nat.reduceLT, ↓z_ops_plain, ↓z_alloc, ↓y_zr41, ↓z_new, ↓z_nm_cons, ↓z_nmC_cons, ↓z_mn'_int, ↓z_nmC_nil, and_self, ↓z_nm_nil, Nat.zero_add, ↓z_pg_cons, ↓z_mn_agg, ↓z_mn_sl, ↓z_mn_int, ↓z_mn_ptr, reduceCtorEq, ↓reduceIte, ↓z_mn_bool, ↓z_pg_nil, ↓z_store, ↓evW_tmp, ↓lkW_cons, Nat.reduceEqDiff, ↓y_sz41, ↓z_cl_agg, List.length_map, ↓z_store_ptr, ↓lkoW_cons, List.length_cons, List.length_nil, Nat.reduceAdd, Nat.reduceLeDiff, ↓spsW_cons, ↓drW_cons, Nat.reduceSub, ↓drW_nil, ↓z_cat_nil_r, ↓z_so_cons, ↓z_put_none, ↓z_ops_nil, ↓z_seq_nrm, ↓z_seq, ↓z_region, ↓z_indexAddr, ↓evW_const, ↓constW_int, inR_i64, Int.reduceNeg, Int.reduceLE, ↓y_ty45, ↓z_elTy_arr, ↓y_sz5, ↓z_ix_ptr, ↓z_load, ↓y_ty5, ↓z_agTy_int, ↓loadW_ptr, ↓z_rd_f, ↓nthW_cons, Int.reduceToNat, Nat.mul_one, ↓z_convert, ↓y_ty3, ↓z_cvt_int, ↓z_cv_int, ↓z_cvi_u8_i64, ↓z_move, ↓z_callv, ↓evW_func, ↓z_evL_cons, ↓z_evL_nil, ↓z_fun0, ↓z_coeL_cons, ↓z_coe_int, ↓z_coe_sl, ↓z_coeL_nil, true_and])
      refine ⟨la, hd.2, ?_⟩
      refine call_fnL (fn_Of b q (few_p h2) (few_enc h2)) (flS_bytes _) fun _ => ?_
      (simp -dsimp only [↓z_put, Nat.reduceLT, ↓z_ops_plain, ↓z_alloc, ↓y_zr41, ↓z_new, ↓z_nm_cons, ↓z_nmC_bytes, ↓z_nmC_cons, ↓z_mn'_int, ↓z_nmC_nil, and_self, ↓z_nm_nil, Nat.zero_add, Nat.reduceAdd, ↓z_pg_cons, ↓z_mn_agg, ↓z_mn_sl, ↓z_mn_int, ↓z_mn_ptr, reduceCtorEq, ↓reduceIte, Nat.reduceEqDiff, ↓z_mn_bool, ↓z_pg_nil, ↓z_store, ↓evW_tmp, ↓lkW_cons, ↓y_sz41, ↓z_cl_agg, List.length_map, ↓z_store_ptr, ↓lkoW_cons, List.length_cons, List.length_nil, Nat.reduceLeDiff, ↓spsW_cons, ↓drW_cons, Nat.reduceSub, ↓drW_nil, ↓z_cat_nil_r, ↓z_so_cons, ↓z_put_none, ↓z_ops_nil, ↓z_seq_nrm, ↓z_seq, ↓z_region_d, ↓y_mix, true_and])
      refine ⟨lb, ?_⟩
      refine rgn_d (by decide +kernel) ?_
      (simp -dsimp only [↓z_drw_move, ↓z_drwS, ↓z_grd_none, ↓z_withE, ↓z_rd_tmp, ↓lkW_cons, Nat.reduceEqDiff, ↓reduceIte, ↓z_rd_nil, ↓z_ap_cons, ↓z_ap_nil, ↓z_or_move, ↓z_move, ↓evW_tmp, Nat.zero_add, Nat.reduceAdd, and_true, ↓z_exD_all, ↓z_exD_eq, ↓z_put, Nat.reduceLT, ↓z_drwK, ↓z_grd, ↓z_dst_s, ↓z_dst_0, ↓z_grdD_b, ↓z_gtt, ↓z_drw_convert, ↓z_or_convert, ↓y_ty22, ↓y_ty9, ↓z_cvR_sl, ↓z_convert, ↓z_cvt_bs, ↓y_ty5, ↓z_u8, ↓z_cv_bs_sl, ↓bsW_map, true_and, ↓z_drw_binOp, ↓z_or_binOp, ↓z_binOp, ↓z_bn_sneq, ne_eq, ↓z_drw_pick, ↓z_rd_const, ↓z_or_pick, ↓z_pick, ↓z_pick_b, ↓z_drw_load, ↓z_gdt, ↓z_or_load, ↓z_load, ↓y_ty41, ↓y_sz41, ↓z_agTy_arr, ↓loadW_ptr, ↓lkoW_cons, ↓z_rd_t, List.length_map, ↓z_sub_map, List.drop_zero, ↓z_exD_and, ↓z_bn_ooql, ↓z_allP_bytes, ↓y_fk41, ↓kdM_bytes, List.length_take, ↓z_drw_callv, ↓z_rd_func, ↓z_gnt, ↓z_gtf, ↓evW_const, ↓constW_bool, Bool.not_true, ↓z_drw_assign, ↓z_or_assign, ↓z_assign, ↓z_drw_nil, ↓z_seq_nrm, ↓z_ret, ↓z_end_rt, resLW, res1W, Int.reduceToNat, Nat.mul_one, ↓z_coeL_cons, ↓z_coeL_nil, ↓z_pack1, ↓z_coe_bool, D.bool.injEq, reduceCtorEq, and_false, z_ite, Classical.not_not])
      have ja := inpL_len (a := a) h1
      have jb := inpL_len (a := b) h2
      have ka := sha_len (inpL a p)
      have kb := sha_len (inpL b q)
      refine ⟨fun hne => ⟨by omega, by omega, by omega, by omega, ?_⟩, fun hne => ?_⟩
      · refine ex_mk (.agg ((sha (inpL a p)).map bD)) (fun E => by (simp -dsimp only [↓z_ap_cons, ↓z_ap_nil, ↓z_callv, ↓evW_func, ↓z_evL_cons, ↓evW_tmp, ↓lkW_cons, ↓reduceIte, ↓z_evL_nil, ↓z_fun0, ↓z_coeL_cons, ↓z_coe_sl, ↓z_coeL_nil]); (try simp only [Int.toNat_natCast, Nat.mul_one, Bool.or_false, Bool.false_or, Bool.or_self, Bool.or_true]); exact call_fnL (fn_hSum (inpL a p) (by omega)) (flS_bytes _) fun _ => ⟨rfl, rfl⟩) ?_
        (simp -dsimp only [↓z_put, Nat.reduceLT, ↓z_drwK, ↓z_drw_move, ↓z_drwS, ↓z_grd, ↓z_dst_s, ↓z_dst_0, ↓lkW_cons, Nat.reduceEqDiff, ↓reduceIte, ↓z_grdD_b, ↓z_gtt, ↓z_withE, ↓z_rd_tmp, ↓z_rd_nil, ↓z_ap_cons, ↓z_ap_nil, ↓z_or_move, ↓z_move, ↓evW_tmp, Nat.zero_add, Nat.reduceAdd, and_true, ↓z_exD_all, ↓z_exD_eq, ↓z_drw_callv, ↓z_rd_func, true_and])
        refine ex_mk (.agg ((sha (inpL b q)).map bD)) (fun E => by (simp -dsimp only [↓z_ap_cons, ↓z_ap_nil, ↓z_callv, ↓evW_func, ↓z_evL_cons, ↓evW_tmp, ↓lkW_cons, ↓reduceIte, ↓z_evL_nil, ↓z_fun0, ↓z_coeL_cons, ↓z_coe_sl, ↓z_coeL_nil]); (try simp only [Int.toNat_natCast, Nat.mul_one, Bool.or_false, Bool.false_or, Bool.or_self, Bool.or_true]); exact call_fnL (fn_hSum (inpL b q) (by omega)) (flS_bytes _) fun _ => ⟨rfl, rfl⟩) ?_
        (simp -dsimp only [↓z_put, Nat.reduceLT, ↓z_drwK, ↓z_drw_callv, ↓z_grd, ↓z_dst_s, ↓z_dst_0, ↓lkW_cons, Nat.reduceEqDiff, ↓reduceIte, ↓z_grdD_b, ↓z_gtt, ↓z_withE, ↓z_rd_func, ↓z_rd_tmp, ↓z_rd_nil, true_and]); (try simp only [Int.toNat_natCast, Nat.mul_one, Bool.or_false, Bool.false_or, Bool.or_self, Bool.or_true])
        refine ex_mk (.bool (decide ((sha (inpL a p)).take 16 = (sha (inpL b q)).take 16))) (fun E => by (simp -dsimp only [↓z_ap_cons, ↓z_ap_nil, ↓z_callv, ↓evW_func, ↓z_evL_cons, ↓evW_tmp, ↓lkW_cons, ↓reduceIte, Nat.reduceEqDiff, ↓z_evL_nil, ↓z_fun0, ↓z_coeL_cons, ↓z_coe_agg, ↓z_coeL_nil]); (try simp only [Int.toNat_natCast, Nat.mul_one, Bool.or_false, Bool.false_or, Bool.or_self, Bool.or_true]); exact call_fn (fn_clash GH _ _ ka kb) fun _ => ⟨rfl, rfl⟩) ?_
        (simp -dsimp only [↓z_put, Nat.reduceLT, ↓z_drwK, ↓z_drw_binOp, ↓z_drwS, ↓z_grd, ↓z_dst_s, ↓z_dst_0, ↓lkW_cons, Nat.reduceEqDiff, ↓reduceIte, ↓z_grdD_b, ↓z_gtt, ↓z_withE, ↓z_rd_tmp, ↓z_rd_nil, ↓z_ap_cons, ↓z_ap_nil, ↓z_or_binOp, ↓z_binOp, ↓evW_tmp, ↓z_bn_beql, ↓y_ty4, ↓z_boolTy, Nat.zero_add, Nat.reduceAdd, and_true, ↓z_exD_all, ↓z_exD_eq, ↓z_drw_pick, ↓z_grd_none, ↓z_rd_const, ↓z_or_pick, ↓z_pick, ↓z_pick_b, ↓z_drw_assign, ↓z_or_assign, ↓z_assign, ↓z_drw_nil, ↓z_seq_nrm, ↓z_ret, ↓z_end_rt, resLW, res1W, Int.reduceToNat, Nat.mul_one, ↓z_coeL_cons, ↓z_coeL_nil, ↓z_pack1, ↓z_coe_bool, D.bool.injEq, decide_eq_true_eq, true_and]); (try simp only [Int.toNat_natCast, Nat.mul_one, Bool.or_false, Bool.false_or, Bool.or_self, Bool.or_true])
        exact cl_eq la lb
      · exact hpq (inpL_inj ha0 ha hb0 hb hne).2
  · refine call_fn (ia (few_p h1) (few_enc h1)) fun _ => ?_
    (simp -dsimp only [↓z_put, Nat.reduceLT, ↓z_ops_plain, ↓z_assign, ↓evW_tmp, ↓lkW_cons, ↓reduceIte, ↓z_ops_nil, ↓z_seq_nrm, ↓z_seq, ↓z_region, ↓z_indexAddr, Nat.reduceEqDiff, ↓evW_const, ↓constW_int, inR_i64, Int.reduceNeg, Int.reduceLE, and_self, ↓y_ty45, ↓z_elTy_arr, ↓y_sz5, ↓z_ix_ptr, ↓z_load, ↓y_ty5, ↓z_agTy_int, ↓loadW_ptr, ↓lkoW_cons, ↓z_rd_f, ↓nthW_cons, Int.reduceToNat, Nat.mul_one, Nat.zero_add, reduceCtorEq, Nat.reduceSub, ↓z_convert, ↓y_ty3, ↓z_cvt_int, ↓z_cv_int, ↓z_cvi_u8_i64, ↓z_move, Nat.reduceAdd, ↓z_callv, ↓evW_func, ↓z_evL_cons, ↓z_evL_nil, ↓z_fun0, ↓z_coeL_cons, ↓z_coe_int, ↓z_coe_sl, ↓z_coeL_nil, true_and]); (try simp only [Int.toNat_natCast, Nat.mul_one, Bool.or_false, Bool.false_or, Bool.or_self, Bool.or_true])
    refine ⟨hd.2, ?_⟩
    refine call_fn (fn_Input GH b q (few_p h2) (few_enc h2)) fun _ => ?_
    (simp -dsimp only [↓z_put, Nat.reduceLT, ↓z_ops_plain, ↓z_assign, ↓evW_tmp, ↓lkW_cons, ↓reduceIte, ↓z_ops_nil, ↓z_seq_nrm, ↓z_seq, ↓z_region, ↓z_move, Nat.reduceEqDiff, ↓z_cond, ↓z_cnd, ↓z_gft, ↓z_skip, ↓z_indexAddr, ↓evW_const, ↓constW_int, inR_i64, Int.reduceNeg, Int.reduceLE, and_self, ↓y_ty45, ↓z_elTy_arr, ↓y_sz5, ↓z_ix_ptr, ↓z_load, ↓y_ty5, ↓z_agTy_int, ↓loadW_ptr, ↓lkoW_cons, ↓z_rd_f, ↓nthW_cons, Int.reduceToNat, Nat.mul_one, Nat.zero_add, ↓z_convert, ↓y_ty3, ↓z_cvt_int, ↓z_cv_int, ↓z_cvi_u8_i64, reduceCtorEq, ↓z_callv, ↓evW_func, ↓z_evL_cons, ↓z_evL_nil, ↓z_fun0, ↓z_coeL_cons, ↓z_coe_int, ↓z_coe_sl, ↓z_coeL_nil, true_and]); (try simp only [Int.toNat_natCast, Nat.mul_one, Bool.or_false, Bool.false_or, Bool.or_self, Bool.or_true])
    refine ⟨hd.1, ?_⟩
    have la := ofD_len a p
    have lb := ofD_len b q
    refine call_fnL (fn_Of a p (few_p h1) (few_enc h1)) (flS_bytes _) fun _ => ?_
    (simp -dsimp only [↓z_put, Nat.reduceLT, ↓z_ops_plain, ↓z_alloc, ↓y_zr41, ↓z_new, ↓z_nm_cons, ↓z_nmC_cons, ↓z_mn'_int, ↓z_nmC_nil, and_self, ↓z_nm_nil, Nat.zero_add, ↓z_pg_cons, ↓z_mn_agg, ↓z_mn_sl, ↓z_mn_int, ↓z_mn_ptr, reduceCtorEq, ↓reduceIte, ↓z_mn_bool, ↓z_mn_tup, ↓z_pg_nil, ↓z_store, ↓evW_tmp, ↓lkW_cons, Nat.reduceEqDiff, ↓y_sz41, ↓z_cl_agg, List.length_map, ↓z_store_ptr, ↓lkoW_cons, List.length_cons, List.length_nil, Nat.reduceAdd, Nat.reduceLeDiff, ↓spsW_cons, ↓drW_cons, Nat.reduceSub, ↓drW_nil, ↓z_cat_nil_r, ↓z_so_cons, ↓z_put_none, ↓z_ops_nil, ↓z_seq_nrm, ↓z_seq, ↓z_region, ↓z_indexAddr, ↓evW_const, ↓constW_int, inR_i64, Int.reduceNeg, Int.reduceLE, ↓y_ty45, ↓z_elTy_arr, ↓y_sz5, ↓z_ix_ptr, ↓z_load, ↓y_ty5, ↓z_agTy_int, ↓loadW_ptr, ↓z_rd_f, ↓nthW_cons, Int.reduceToNat, Nat.mul_one, ↓z_convert, ↓y_ty3, ↓z_cvt_int, ↓z_cv_int, ↓z_cvi_u8_i64, ↓z_move, ↓z_callv, ↓evW_func, ↓z_evL_cons, ↓z_evL_nil, ↓z_fun0, ↓z_coeL_cons, ↓z_coe_int, ↓z_coe_sl, ↓z_coeL_nil, true_and])
    refine ⟨la, hd.2, ?_⟩
    refine call_fnL (fn_Of b q (few_p h2) (few_enc h2)) (flS_bytes _) fun _ => ?_
    (simp -dsimp only [↓z_put, Nat.reduceLT, ↓z_ops_plain, ↓z_alloc, ↓y_zr41, ↓z_new, ↓z_nm_cons, ↓z_nmC_bytes, ↓z_nmC_cons, ↓z_mn'_int, ↓z_nmC_nil, and_self, ↓z_nm_nil, Nat.zero_add, Nat.reduceAdd, ↓z_pg_cons, ↓z_mn_agg, ↓z_mn_sl, ↓z_mn_int, ↓z_mn_ptr, reduceCtorEq, ↓reduceIte, Nat.reduceEqDiff, ↓z_mn_bool, ↓z_mn_tup, ↓z_pg_nil, ↓z_store, ↓evW_tmp, ↓lkW_cons, ↓y_sz41, ↓z_cl_agg, List.length_map, ↓z_store_ptr, ↓lkoW_cons, List.length_cons, List.length_nil, Nat.reduceLeDiff, ↓spsW_cons, ↓drW_cons, Nat.reduceSub, ↓drW_nil, ↓z_cat_nil_r, ↓z_so_cons, ↓z_put_none, ↓z_ops_nil, ↓z_seq_nrm, ↓z_seq, ↓z_region_d, ↓y_mix, true_and])
    refine ⟨lb, ?_⟩
    refine rgn_d (by decide +kernel) ?_
    (simp -dsimp only [↓z_drw_move, ↓z_drwS, ↓z_grd_none, ↓z_withE, ↓z_rd_tmp, ↓lkW_cons, Nat.reduceEqDiff, ↓reduceIte, ↓z_rd_nil, ↓z_ap_cons, ↓z_ap_nil, ↓z_or_move, ↓z_move, ↓evW_tmp, Nat.zero_add, Nat.reduceAdd, and_true, ↓z_exD_all, ↓z_exD_eq, ↓z_put, Nat.reduceLT, ↓z_drwK, ↓z_grd, ↓z_dst_s, ↓z_dst_0, ↓z_grdD_b, ↓z_gtt, ↓z_drw_convert, ↓z_or_convert, ↓y_ty22, ↓y_ty9, ↓z_cvR_sl, ↓z_convert, ↓z_cvt_bs, ↓y_ty5, ↓z_u8, ↓z_cv_bs_sl, ↓bsW_map, true_and, ↓z_drw_binOp, ↓z_or_binOp, ↓z_binOp, ↓z_bn_sneq, ne_eq, ↓z_drw_pick, ↓z_rd_const, ↓z_or_pick, ↓z_pick, ↓z_pick_b, ↓z_drw_load, ↓z_gdt, ↓z_or_load, ↓z_load, ↓y_ty41, ↓y_sz41, ↓z_agTy_arr, ↓loadW_ptr, ↓lkoW_cons, ↓z_rd_t, List.length_map, ↓z_sub_map, List.drop_zero, ↓z_exD_and, ↓z_bn_ooql, ↓z_allP_bytes, ↓y_fk41, ↓kdM_bytes, List.length_take, ↓z_drw_callv, ↓z_rd_func, ↓z_gnt, ↓z_gtf, ↓evW_const, ↓constW_bool, Bool.not_true, ↓z_drw_assign, ↓z_or_assign, ↓z_assign, ↓z_drw_nil, ↓z_seq_nrm, ↓z_ret, ↓z_end_rt, resLW, res1W, Int.reduceToNat, Nat.mul_one, ↓z_coeL_cons, ↓z_coeL_nil, ↓z_pack1, ↓z_coe_bool, D.bool.injEq, reduceCtorEq, and_false, z_ite, Classical.not_not])
    have ja := inpL_len (a := a) h1
    have jb := inpL_len (a := b) h2
    have ka := sha_len (inpL a p)
    have kb := sha_len (inpL b q)
    refine ⟨fun hne => ⟨by omega, by omega, by omega, by omega, ?_⟩, fun hne => ?_⟩
    · refine ex_mk (.agg ((sha (inpL a p)).map bD)) (fun E => by (simp -dsimp only [↓z_ap_cons, ↓z_ap_nil, ↓z_callv, ↓evW_func, ↓z_evL_cons, ↓evW_tmp, ↓lkW_cons, ↓reduceIte, ↓z_evL_nil, ↓z_fun0, ↓z_coeL_cons, ↓z_coe_sl, ↓z_coeL_nil]); (try simp only [Int.toNat_natCast, Nat.mul_one, Bool.or_false, Bool.false_or, Bool.or_self, Bool.or_true]); exact call_fnL (fn_hSum (inpL a p) (by omega)) (flS_bytes _) fun _ => ⟨rfl, rfl⟩) ?_
      (simp -dsimp only [↓z_put, Nat.reduceLT, ↓z_drwK, ↓z_drw_move, ↓z_drwS, ↓z_grd, ↓z_dst_s, ↓z_dst_0, ↓lkW_cons, Nat.reduceEqDiff, ↓reduceIte, ↓z_grdD_b, ↓z_gtt, ↓z_withE, ↓z_rd_tmp, ↓z_rd_nil, ↓z_ap_cons, ↓z_ap_nil, ↓z_or_move, ↓z_move, ↓evW_tmp, Nat.zero_add, Nat.reduceAdd, and_true, ↓z_exD_all, ↓z_exD_eq, ↓z_drw_callv, ↓z_rd_func, true_and])
      refine ex_mk (.agg ((sha (inpL b q)).map bD)) (fun E => by (simp -dsimp only [↓z_ap_cons, ↓z_ap_nil, ↓z_callv, ↓evW_func, ↓z_evL_cons, ↓evW_tmp, ↓lkW_cons, ↓reduceIte, ↓z_evL_nil, ↓z_fun0, ↓z_coeL_cons, ↓z_coe_sl, ↓z_coeL_nil]); (try simp only [Int.toNat_natCast, Nat.mul_one, Bool.or_false, Bool.false_or, Bool.or_self, Bool.or_true]); exact call_fnL (fn_hSum (inpL b q) (by omega)) (flS_bytes _) fun _ => ⟨rfl, rfl⟩) ?_
      (simp -dsimp only [↓z_put, Nat.reduceLT, ↓z_drwK, ↓z_drw_callv, ↓z_grd, ↓z_dst_s, ↓z_dst_0, ↓lkW_cons, Nat.reduceEqDiff, ↓reduceIte, ↓z_grdD_b, ↓z_gtt, ↓z_withE, ↓z_rd_func, ↓z_rd_tmp, ↓z_rd_nil, true_and]); (try simp only [Int.toNat_natCast, Nat.mul_one, Bool.or_false, Bool.false_or, Bool.or_self, Bool.or_true])
      refine ex_mk (.bool (decide ((sha (inpL a p)).take 16 = (sha (inpL b q)).take 16))) (fun E => by (simp -dsimp only [↓z_ap_cons, ↓z_ap_nil, ↓z_callv, ↓evW_func, ↓z_evL_cons, ↓evW_tmp, ↓lkW_cons, ↓reduceIte, Nat.reduceEqDiff, ↓z_evL_nil, ↓z_fun0, ↓z_coeL_cons, ↓z_coe_agg, ↓z_coeL_nil]); (try simp only [Int.toNat_natCast, Nat.mul_one, Bool.or_false, Bool.false_or, Bool.or_self, Bool.or_true]); exact call_fn (fn_clash GH _ _ ka kb) fun _ => ⟨rfl, rfl⟩) ?_
      (simp -dsimp only [↓z_put, Nat.reduceLT, ↓z_drwK, ↓z_drw_binOp, ↓z_drwS, ↓z_grd, ↓z_dst_s, ↓z_dst_0, ↓lkW_cons, Nat.reduceEqDiff, ↓reduceIte, ↓z_grdD_b, ↓z_gtt, ↓z_withE, ↓z_rd_tmp, ↓z_rd_nil, ↓z_ap_cons, ↓z_ap_nil, ↓z_or_binOp, ↓z_binOp, ↓evW_tmp, ↓z_bn_beql, ↓y_ty4, ↓z_boolTy, Nat.zero_add, Nat.reduceAdd, and_true, ↓z_exD_all, ↓z_exD_eq, ↓z_drw_pick, ↓z_grd_none, ↓z_rd_const, ↓z_or_pick, ↓z_pick, ↓z_pick_b, ↓z_drw_assign, ↓z_or_assign, ↓z_assign, ↓z_drw_nil, ↓z_seq_nrm, ↓z_ret, ↓z_end_rt, resLW, res1W, Int.reduceToNat, Nat.mul_one, Bool.not_true, ↓z_coeL_cons, ↓z_coeL_nil, ↓z_pack1, ↓z_coe_bool, D.bool.injEq, decide_eq_true_eq, true_and]); (try simp only [Int.toNat_natCast, Nat.mul_one, Bool.or_false, Bool.false_or, Bool.or_self, Bool.or_true])
      exact cl_eq la lb
    · exact hab (inpL_inj ha0 ha hb0 hb hne).1
set_option maxRecDepth 100000 in
set_option maxHeartbeats 8000000 in
theorem fn_LawMac (k : List UInt8) (p q : List (List UInt8)) : Fn GK Tryd.prog 11 [.str k, .sl 1 p.length (p.map D.str), .sl 1 q.length (q.map D.str)] (.bool true) := by
  refine Fn.mk (c := _) Tryd.func11 rfl rfl Tryd.ntmps11 Tryd.results11 ?_
  (simp -dsimp only [bodyW, List.length_cons, List.length_nil, Nat.zero_add, Nat.reduceAdd, Nat.reduceLeDiff, wfL, ↓z_seq, ↓z_region, ↓z_ops_plain, ↓z_assign, ↓evW_const, ↓constW_bool, ↓z_put, Nat.reduceLT, ↓z_ops_nil, ↓z_seq_nrm, ↓z_callv, ↓evW_func, ↓z_evL_nil, ↓z_fun0, ↓z_coeL_nil, true_and])
  intro _ _ _
  refine call_fn fn_sanity.gk fun _ => ?_
  (simp -dsimp only [↓z_put, Nat.reduceLT, ↓z_ops_plain, ↓z_assign, ↓evW_tmp, ↓lkW_cons, ↓reduceIte, ↓z_ops_nil, ↓z_seq_nrm, ↓z_seq, ↓z_region, ↓z_move, reduceCtorEq, ↓z_lk_env, ↓z_callb, ↓z_evL_cons, ↓z_evL_nil, ↓z_len, ↓y_ty9, ↓z_ln_str, ↓z_binOp, ↓evW_const, ↓constW_int, inR_i64, Int.reduceNeg, Int.reduceLE, and_self, ↓z_bn_gtr, ↓z_ops_guard, ↓z_grd, ↓z_dst_s, ↓z_dst_0, ↓z_grdD_b, ↓z_gdf, Nat.reduceEqDiff, ↓z_gnf, ↓z_gft, ↓z_pick, ↓z_pick_b, ↓z_gnt, ↓z_gff, ↓constW_bool, ↓z_gtf, ↓z_cond, ↓z_cnd, ↓z_gtt, ↓z_ret, ↓z_seq_rt, ↓z_end_rt, resLW, res1W, Bool.not_false, ↓z_envF_cons, Nat.zero_add, Nat.reduceAdd, ↓z_envF_nil, ↓z_coeL_cons, ↓z_coeL_nil, ↓z_pack1, ↓z_coe_bool, ↓z_callv, ↓evW_func, ↓z_fun0, ↓z_coe_sl, true_and, z_ite])
  refine ⟨fun _ => trivial, fun h0 => ?_⟩
  refine call_fn (fn_Few GK p) fun _ => ?_
  (simp -dsimp only [↓z_put, Nat.reduceLT, ↓z_ops_guard, ↓z_grd, ↓z_dst_s, ↓z_dst_0, ↓lkW_cons, Nat.reduceEqDiff, ↓reduceIte, ↓z_grdD_b, ↓z_gff, ↓z_unOp, ↓evW_tmp, ↓z_un_not, ↓z_ops_plain, ↓z_pick, ↓z_pick_b, ↓z_gft, ↓z_move, ↓z_gnf, ↓z_gdt, ↓z_lk_env, reduceCtorEq, Nat.zero_add, Nat.reduceAdd, ↓z_callv, ↓evW_func, ↓z_evL_cons, ↓z_evL_nil, ↓z_fun0, ↓z_coeL_cons, ↓z_coe_sl, ↓z_coeL_nil, true_and, ↓z_gnt, ↓evW_const, ↓constW_bool, ↓z_ops_nil, ↓z_seq_nrm, ↓z_cond, ↓z_cnd, ↓z_gtt, ↓z_seq, ↓z_region, ↓z_assign, ↓z_ret, ↓z_seq_rt, ↓z_end_rt, resLW, res1W, Bool.not_false, ↓z_envF_cons, ↓z_envF_nil, ↓z_pack1, ↓z_coe_bool, and_self, z_ite])
  refine ⟨fun h1 => ?_, fun _ => trivial⟩
  refine call_fn (fn_Few GK q) fun _ => ?_
  (simp -dsimp only [↓z_put, Nat.reduceLT, ↓z_ops_guard, ↓z_grd, ↓z_dst_s, ↓z_dst_0, ↓lkW_cons, Nat.reduceEqDiff, ↓reduceIte, ↓z_grdD_b, ↓z_gff, ↓z_unOp, ↓evW_tmp, ↓z_un_not, ↓z_ops_plain, ↓z_pick, ↓z_pick_b, ↓z_gft, ↓z_ops_nil, ↓z_seq_nrm, ↓z_cond, ↓z_cnd, ↓z_gnt, ↓z_gdf, ↓z_skip, ↓z_seq, ↓z_region, ↓z_move, reduceCtorEq, ↓z_lk_env, Nat.zero_add, ↓z_callv, ↓evW_func, ↓z_evL_cons, ↓z_evL_nil, ↓z_fun0, ↓z_coeL_cons, ↓z_coe_str, ↓z_coe_sl, ↓z_coeL_nil, true_and, ↓z_assign, ↓z_ret, ↓z_seq_rt, ↓z_end_rt, resLW, res1W, ↓z_envF_cons, Nat.reduceAdd, ↓z_envF_nil, ↓z_pack1, ↓z_coe_bool, and_self, z_ite]); (try simp only [Int.toNat_natCast, Nat.mul_one, Bool.or_false, Bool.false_or, Bool.or_self, Bool.or_true])
  refine ⟨fun h2 => ?_, fun _ => trivial⟩
  have la : (macD k p).length = 16 := by unfold macD; rw [List.length_take, hmac_len]; rfl
  have lb : (macD k q).length = 16 := by unfold macD; rw [List.length_take, hmac_len]; rfl
  refine call_fnL (fn_Mac k p (by omega) (few_p h1) (few_enc h1)).gk (flS_bytes _) fun _ => ?_
  (simp -dsimp only [↓z_put, Nat.reduceLT, ↓z_ops_plain, ↓z_alloc, ↓y_zr41, ↓z_new, ↓z_nm_nil, ↓z_pg_cons, ↓z_mn_agg, ↓z_mn_sl, ↓z_mn_str, ↓z_mn_bool, ↓z_mn_int, ↓z_pg_env, ↓z_pg_env0, ↓z_store, ↓evW_tmp, ↓lkW_cons, ↓reduceIte, Nat.reduceEqDiff, ↓y_sz41, ↓z_cl_agg, List.length_map, ↓z_store_ptr, ↓lkoW_cons, Nat.zero_add, List.length_cons, List.length_nil, Nat.reduceAdd, Nat.reduceLeDiff, ↓spsW_cons, ↓drW_cons, reduceCtorEq, Nat.reduceSub, ↓drW_nil, ↓z_cat_nil_r, ↓z_so_cons, ↓z_put_none, ↓z_ops_nil, ↓z_seq_nrm, ↓z_seq, ↓z_region, ↓z_move, ↓z_callv, ↓evW_func, ↓z_evL_cons, ↓z_evL_nil, ↓z_fun0, ↓z_coeL_cons, ↓z_coe_str, ↓z_coe_sl, ↓z_coeL_nil, true_and])
  refine ⟨la, ?_⟩
  refine call_fnL (fn_Mac k q (by omega) (few_p h2) (few_enc h2)).gk (flS_bytes _) fun _ => ?_
  (simp -dsimp only [↓z_put, Nat.reduceLT, ↓z_ops_plain, ↓z_alloc, ↓y_zr41, ↓z_new, ↓z_nm_cons, ↓z_nmC_bytes, ↓z_nm_nil, Nat.zero_add, ↓z_pg_cons, ↓z_mn_agg, ↓z_mn_sl, ↓z_mn_str, ↓z_mn_ptr, reduceCtorEq, ↓reduceIte, ↓z_mn_bool, ↓z_mn_int, ↓z_pg_nil, ↓z_store, ↓evW_tmp, ↓lkW_cons, Nat.reduceEqDiff, ↓y_sz41, ↓z_cl_agg, List.length_map, ↓z_store_ptr, ↓lkoW_cons, List.length_cons, List.length_nil, Nat.reduceAdd, Nat.reduceLeDiff, ↓spsW_cons, ↓drW_cons, Nat.reduceSub, ↓drW_nil, ↓z_cat_nil_r, ↓z_so_cons, ↓z_put_none, ↓z_ops_nil, ↓z_seq_nrm, ↓z_seq, ↓z_region, ↓z_move, ↓z_callv, ↓evW_func, ↓z_evL_cons, ↓z_evL_nil, ↓z_fun0, ↓z_coeL_cons, ↓z_coe_sl, ↓z_coeL_nil, true_and])
  refine ⟨lb, ?_⟩
  refine call_fn (fn_Message GK p (few_p h1) (few_enc h1)) fun _ => ?_
  (simp -dsimp only [↓z_put, Nat.reduceLT, ↓z_ops_plain, ↓z_callv, ↓evW_func, ↓z_evL_cons, ↓evW_tmp, ↓lkW_cons, Nat.reduceEqDiff, ↓reduceIte, ↓z_evL_nil, ↓z_fun0, ↓z_coeL_cons, ↓z_coe_str, ↓z_coeL_nil, true_and])
  have lc := hmac_len k (msgL p)
  have ld := hmac_len k (msgL q)
  have jp : (msgL p).length ≤ 1000000000 := by have := few_enc h1; unfold msgL; omega
  have jq : (msgL q).length ≤ 1000000000 := by have := few_enc h2; unfold msgL; omega
  refine call_fnL (fn_Hmac k (msgL p) (by omega) (by omega)).gk (flS_bytes _) fun _ => ?_
  (simp -dsimp only [↓z_put, Nat.reduceLT, ↓z_ops_plain, ↓z_alloc, ↓y_zr24, ↓z_new, ↓z_nm_cons, ↓z_nmC_bytes, ↓z_nm_nil, Nat.zero_add, Nat.reduceAdd, ↓z_pg_cons, ↓z_mn_agg, ↓z_mn_str, ↓z_mn_sl, ↓z_mn_ptr, Nat.reduceEqDiff, ↓reduceIte, reduceCtorEq, ↓z_mn_bool, ↓z_mn_int, ↓z_pg_nil, ↓z_store, ↓evW_tmp, ↓lkW_cons, ↓y_sz24, ↓z_cl_agg, List.length_map, ↓z_store_ptr, ↓lkoW_cons, List.length_cons, List.length_nil, Nat.reduceLeDiff, ↓spsW_cons, ↓drW_cons, Nat.reduceSub, ↓drW_nil, ↓z_cat_nil_r, ↓z_so_cons, ↓z_put_none, ↓z_ops_nil, ↓z_seq_nrm, ↓z_seq, ↓z_region, ↓z_move, ↓z_callv, ↓evW_func, ↓z_evL_cons, ↓z_evL_nil, ↓z_fun0, ↓z_coeL_cons, ↓z_coe_sl, ↓z_coeL_nil, true_and])
  refine ⟨lc, ?_⟩
  refine call_fn (fn_Message GK q (few_p h2) (few_enc h2)) fun _ => ?_
  (simp -dsimp only [↓z_put, Nat.reduceLT, ↓z_ops_plain, ↓z_callv, ↓evW_func, ↓z_evL_cons, ↓evW_tmp, ↓lkW_cons, Nat.reduceEqDiff, ↓reduceIte, ↓z_evL_nil, ↓z_fun0, ↓z_coeL_cons, ↓z_coe_str, ↓z_coeL_nil, true_and])
  refine call_fnL (fn_Hmac k (msgL q) (by omega) (by omega)).gk (flS_bytes _) fun _ => ?_
  (simp -dsimp only [↓z_put, Nat.reduceLT, ↓z_ops_plain, ↓z_alloc, ↓y_zr24, ↓z_new, ↓z_nm_cons, ↓z_nmC_bytes, ↓z_nm_nil, Nat.zero_add, Nat.reduceAdd, ↓z_pg_cons, ↓z_mn_agg, ↓z_mn_str, ↓z_mn_sl, ↓z_mn_ptr, Nat.reduceEqDiff, ↓reduceIte, reduceCtorEq, ↓z_mn_bool, ↓z_mn_int, ↓z_pg_nil, ↓z_store, ↓evW_tmp, ↓lkW_cons, ↓y_sz24, ↓z_cl_agg, List.length_map, ↓z_store_ptr, ↓lkoW_cons, List.length_cons, List.length_nil, Nat.reduceLeDiff, ↓spsW_cons, ↓drW_cons, Nat.reduceSub, ↓drW_nil, ↓z_cat_nil_r, ↓z_so_cons, ↓z_put_none, ↓z_ops_nil, ↓z_seq_nrm, ↓z_seq, ↓z_region, ↓z_move, ↓z_callv, ↓evW_func, ↓z_evL_cons, ↓z_evL_nil, ↓z_fun0, ↓z_coeL_cons, ↓z_coe_sl, ↓z_coeL_nil, true_and])
  refine ⟨ld, ?_⟩
  refine call_fnL (fn_rSame GK p q) rfl fun _ => ?_
  (simp -dsimp only [↓z_put, Nat.reduceLT, ↓z_ops_plain, ↓z_assign, ↓evW_tmp, ↓lkW_cons, ↓reduceIte, ↓z_ops_nil, ↓z_seq_nrm, ↓z_seq, ↓z_region_d, ↓y_mix, true_and])
  refine rgn_d (by decide +kernel) ?_
  (simp -dsimp only [↓z_drw_move, ↓z_drwS, ↓z_grd_none, ↓z_withE, ↓z_rd_tmp, ↓lkW_cons, Nat.reduceEqDiff, ↓reduceIte, ↓z_rd_nil, ↓z_ap_cons, ↓z_ap_nil, ↓z_or_move, ↓z_move, ↓evW_tmp, Nat.zero_add, Nat.reduceAdd, and_true, ↓z_exD_all, ↓z_exD_eq, ↓z_put, Nat.reduceLT, ↓z_drwK, ↓z_drw_load, ↓z_grd, ↓z_dst_s, ↓z_dst_0, ↓z_grdD_b, ↓z_gtt, ↓z_or_load, ↓z_load, ↓y_ty41, ↓y_sz41, ↓z_agTy_arr, ↓loadW_ptr, ↓lkoW_cons, reduceCtorEq, ↓z_rd_t, List.length_map, ↓z_sub_map, List.drop_zero, ↓z_exD_and, ↓z_drw_callv, ↓z_rd_func, true_and])
  refine ⟨by omega, ?_⟩
  refine ex_mk (.agg ((macD k p).map bD)) (fun E => by (simp -dsimp only [↓z_ap_cons, ↓z_ap_nil, ↓z_callv, ↓evW_func, ↓z_evL_cons, ↓evW_tmp, ↓lkW_cons, ↓reduceIte, Nat.reduceEqDiff, ↓z_evL_nil, ↓z_fun0, ↓z_coeL_cons, ↓z_coe_str, ↓z_coe_sl, ↓z_coeL_nil]); (try simp only [Int.toNat_natCast, Nat.mul_one, Bool.or_false, Bool.false_or, Bool.or_self, Bool.or_true]); exact call_fnL (fn_rMac k p (by omega) (few_p h1) (few_enc h1)) (flS_bytes _) fun _ => ⟨rfl, rfl⟩) ?_
  (simp -dsimp only [↓z_put, Nat.reduceLT, ↓z_drwK, ↓z_drw_binOp, ↓z_drwS, ↓z_grd, ↓z_dst_s, ↓z_dst_0, ↓lkW_cons, Nat.reduceEqDiff, ↓reduceIte, ↓z_grdD_b, ↓z_gtt, ↓z_withE, ↓z_rd_tmp, ↓z_rd_nil, ↓z_ap_cons, ↓z_ap_nil, ↓z_or_binOp, ↓z_binOp, ↓evW_tmp, ↓z_bn_oeql, ↓z_allP_bytes, ↓y_fk41, ↓kdM_bytes, List.length_take, Nat.zero_add, Nat.reduceAdd, and_true, true_and, ↓z_exD_all, ↓z_exD_and, ↓z_exD_eq, ↓z_drw_pick, ↓z_grd_none, ↓z_rd_const, ↓z_or_pick, ↓z_pick, ↓z_pick_b, ↓z_drw_move, ↓z_or_move, ↓z_move, ↓z_drw_load, ↓z_geqt, ↓z_or_load, ↓z_load, ↓y_ty41, ↓y_sz41, ↓z_agTy_arr, ↓loadW_ptr, ↓lkoW_cons, reduceCtorEq, ↓z_rd_t, List.length_map, ↓z_sub_map, List.drop_zero, ↓z_bn_ooql, ↓y_ty24, ↓y_sz24, ↓z_drw_callv, ↓z_rd_func, ↓z_gnt, ↓z_gtf, ↓evW_const, ↓constW_bool, Bool.not_true, ↓z_gft, ↓z_drw_assign, ↓z_or_assign, ↓z_assign, ↓z_drw_nil, ↓z_seq_nrm, ↓z_ret, ↓z_end_rt, resLW, res1W, ↓z_coeL_cons, ↓z_coeL_nil, ↓z_pack1, ↓z_coe_bool, D.bool.injEq, and_false]); (try simp only [Int.toNat_natCast, Nat.mul_one, Bool.or_false, Bool.false_or, Bool.or_self, Bool.or_true])
  refine ⟨by omega, la, fun _ => ⟨by omega, by omega, by omega, by omega, by omega, by omega, ?_⟩, fun h => absurd (by rw [List.take_of_length_le (by omega)]) h⟩
  refine ex_mk (.bool (decide ((hmacL k (msgL p)).take 16 = (hmacL k (msgL q)).take 16))) (fun E => by (simp -dsimp only [↓z_ap_cons, ↓z_ap_nil, ↓z_callv, ↓evW_func, ↓z_evL_cons, ↓evW_tmp, ↓lkW_cons, ↓reduceIte, Nat.reduceEqDiff, ↓z_evL_nil, ↓z_fun0, ↓z_coeL_cons, ↓z_coe_oag, ↓z_coeC_bytes, ↓z_coeL_nil]); (try simp only [Int.toNat_natCast, Nat.mul_one, Bool.or_false, Bool.false_or, Bool.or_self, Bool.or_true]); rw [List.take_of_length_le (by omega), List.take_of_length_le (by omega)]; exact call_fn (fn_clash GK _ _ lc ld) fun _ => ⟨rfl, rfl⟩) ?_
  (simp -dsimp only [↓z_put, Nat.reduceLT, ↓z_drwK, ↓z_drw_binOp, ↓z_drwS, ↓z_grd, ↓z_dst_s, ↓z_dst_0, ↓lkW_cons, Nat.reduceEqDiff, ↓reduceIte, ↓z_grdD_b, ↓z_gtt, ↓z_withE, ↓z_rd_tmp, ↓z_rd_nil, ↓z_ap_cons, ↓z_ap_nil, ↓z_or_binOp, ↓z_binOp, ↓evW_tmp, ↓z_bn_beql, ↓y_ty4, ↓z_boolTy, Nat.zero_add, Nat.reduceAdd, and_true, ↓z_exD_all, ↓z_exD_eq, ↓z_drw_pick, ↓z_grd_none, ↓z_rd_const, ↓z_or_pick, ↓z_pick, ↓z_pick_b, ↓z_drw_move, ↓z_or_move, ↓z_move, ↓z_gdt, reduceCtorEq, ↓z_drw_callv, ↓z_rd_func, true_and, ↓z_gnt, ↓z_gtf, ↓evW_const, ↓constW_bool, Bool.not_true, ↓z_drw_assign, ↓z_or_assign, ↓z_assign, ↓z_drw_nil, ↓z_seq_nrm, ↓z_ret, ↓z_end_rt, resLW, res1W, ↓z_coeL_cons, ↓z_coeL_nil, ↓z_pack1, ↓z_coe_bool, D.bool.injEq, and_false, z_ite]); (try simp only [Int.toNat_natCast, Nat.mul_one, Bool.or_false, Bool.false_or, Bool.or_self, Bool.or_true])
  refine ⟨fun _ => ?_, fun h => absurd (mac_eq la lb) h⟩
  refine ex_mk (.str (msgL p)) (fun E => by (simp -dsimp only [↓z_ap_cons, ↓z_ap_nil, ↓z_callv, ↓evW_func, ↓z_evL_cons, ↓evW_tmp, ↓lkW_cons, ↓reduceIte, ↓z_evL_nil, ↓z_fun0, ↓z_coeL_cons, ↓z_coe_sl, ↓z_coeL_nil]); (try simp only [Int.toNat_natCast, Nat.mul_one, Bool.or_false, Bool.false_or, Bool.or_self, Bool.or_true]); exact call_fn (fn_Message GK p (few_p h1) (few_enc h1)) fun _ => ⟨rfl, rfl⟩) ?_
  (simp -dsimp only [↓z_put, Nat.reduceLT, ↓z_drwK, ↓z_drw_move, ↓z_drwS, ↓z_grd, ↓z_dst_s, ↓z_dst_0, ↓lkW_cons, Nat.reduceEqDiff, ↓reduceIte, ↓z_grdD_b, ↓z_gtt, ↓z_withE, ↓z_rd_tmp, reduceCtorEq, Nat.zero_add, Nat.reduceAdd, ↓z_rd_nil, ↓z_ap_cons, ↓z_ap_nil, ↓z_or_move, ↓z_move, ↓evW_tmp, and_true, ↓z_exD_all, ↓z_exD_eq, ↓z_drw_callv, ↓z_rd_func, true_and]); (try simp only [Int.toNat_natCast, Nat.mul_one, Bool.or_false, Bool.false_or, Bool.or_self, Bool.or_true])
  refine ex_mk (.str (msgL q)) (fun E => by (simp -dsimp only [↓z_ap_cons, ↓z_ap_nil, ↓z_callv, ↓evW_func, ↓z_evL_cons, ↓evW_tmp, ↓lkW_cons, ↓reduceIte, ↓z_evL_nil, ↓z_fun0, ↓z_coeL_cons, ↓z_coe_sl, ↓z_coeL_nil]); (try simp only [Int.toNat_natCast, Nat.mul_one, Bool.or_false, Bool.false_or, Bool.or_self, Bool.or_true]); exact call_fn (fn_Message GK q (few_p h2) (few_enc h2)) fun _ => ⟨rfl, rfl⟩) ?_
  (simp -dsimp only [↓z_put, Nat.reduceLT, ↓z_drwK, ↓z_drw_binOp, ↓z_drwS, ↓z_grd, ↓z_dst_s, ↓z_dst_0, ↓lkW_cons, Nat.reduceEqDiff, ↓reduceIte, ↓z_grdD_b, ↓z_gtt, ↓z_withE, ↓z_rd_tmp, ↓z_rd_nil, ↓z_ap_cons, ↓z_ap_nil, ↓z_or_binOp, ↓z_binOp, ↓evW_tmp, ↓z_bn_seql, Nat.zero_add, Nat.reduceAdd, and_true, ↓z_exD_all, ↓z_exD_eq, ↓z_drw_move, ↓z_or_move, ↓z_move, ↓z_bn_beql, ↓y_ty4, ↓z_boolTy, ↓z_drw_pick, ↓z_grd_none, ↓z_rd_const, ↓z_or_pick, ↓z_pick, ↓z_pick_b, ↓z_drw_assign, ↓z_or_assign, ↓z_assign, ↓z_drw_nil, ↓z_seq_nrm, ↓z_ret, ↓z_end_rt, resLW, res1W, ↓z_coeL_cons, ↓z_coeL_nil, ↓z_pack1, ↓z_coe_bool, D.bool.injEq, decide_eq_true_eq, true_and]); (try simp only [Int.toNat_natCast, Nat.mul_one, Bool.or_false, Bool.false_or, Bool.or_self, Bool.or_true])
  exact decide_eq_decide.2 ⟨fun h => encs_inj h, fun h => by rw [h]⟩
set_option maxRecDepth 100000 in
set_option maxHeartbeats 8000000 in
theorem fn_LawStreams (ps : List (List UInt8)) (t : List UInt8) (n : Int) (hn0 : 0 ≤ n) (hn : n ≤ 255) : Fn GH Tryd.prog 4 [.sl 1 ps.length (ps.map D.str), .str t, .int .u8 n] (.bool true) := by
  refine Fn.mk (c := _) Tryd.func4 rfl rfl Tryd.ntmps4 Tryd.results4 ?_
  (simp -dsimp only [bodyW, List.length_cons, List.length_nil, Nat.zero_add, Nat.reduceAdd, Nat.reduceLeDiff, wfL, ↓z_seq, ↓z_region, ↓z_ops_plain, ↓z_assign, ↓evW_const, ↓constW_bool, ↓z_put, Nat.reduceLT, ↓z_ops_nil, ↓z_seq_nrm, ↓z_callv, ↓evW_func, ↓z_evL_nil, ↓z_fun0, ↓z_coeL_nil, true_and])
  intro _ _ _
  refine call_fn fn_sanity fun _ => ?_
  (simp -dsimp only [↓z_put, Nat.reduceLT, ↓z_ops_plain, ↓z_assign, ↓evW_tmp, ↓lkW_cons, ↓reduceIte, ↓z_ops_nil, ↓z_seq_nrm, ↓z_seq, ↓z_region, ↓z_move, reduceCtorEq, ↓z_lk_env, ↓z_callv, ↓evW_func, ↓z_evL_cons, ↓z_evL_nil, ↓z_fun0, ↓z_coeL_cons, ↓z_coe_sl, ↓z_coeL_nil, true_and])
  refine call_fn (fn_Few GH ps) fun _ => ?_
  (simp -dsimp only [↓z_put, Nat.reduceLT, ↓z_ops_plain, ↓z_unOp, ↓evW_tmp, ↓lkW_cons, ↓reduceIte, ↓z_un_not, ↓z_move, ↓z_ops_guard, ↓z_grd, ↓z_dst_s, ↓z_dst_0, ↓z_grdD_b, ↓z_gnf, ↓z_gdt, Nat.reduceEqDiff, ↓z_lk_env, reduceCtorEq, Nat.zero_add, ↓z_gff, ↓z_callb, ↓z_evL_cons, ↓z_evL_nil, ↓z_len, ↓y_ty9, ↓z_ln_str, ↓z_binOp, ↓evW_const, ↓constW_int, inR_i64, Int.reduceNeg, Int.reduceLE, and_self, ↓z_bn_gtr, ↓z_pick, ↓z_pick_b, ↓z_gft, ↓z_ops_nil, ↓z_seq_nrm, ↓z_cond, ↓z_cnd, ↓z_seq, ↓z_region, ↓z_assign, ↓z_ret, ↓z_seq_rt, ↓z_end_rt, resLW, res1W, ↓z_envF_cons, Nat.reduceAdd, ↓z_envF_nil, ↓z_coeL_cons, ↓z_coeL_nil, ↓z_pack1, ↓z_coe_bool, ↓z_skip, ↓z_convert, ↓y_ty5, ↓y_ty3, ↓z_cvt_int, ↓z_cv_int, ↓z_cvi_u8_i64, ↓y_ty27, ↓z_ln_sl, ↓z_bn_add, ↓wrW_i64, ↓z_bn_rem, ↓z_rem_i64, ne_eq, ↓z_callv, ↓evW_func, ↓z_fun0, true_and, z_ite, ↓z_gnt, ↓constW_bool, ↓z_gtt, Bool.not_false])
  refine ⟨fun h1 => ⟨fun _ => trivial, fun h2 => ⟨by have := h1.1; omega, by omega, ?_⟩⟩, fun _ => trivial⟩
  refine call_fn (fn_Begin GH) fun _ => ?_
  have hSb : ∀ m, (addS str0 m).blk.length = 64 := fun m => by rw [addS_blk]; rfl
  have hSn : ∀ m, (addS str0 m).n = m.length := fun m => by rw [addS_n]; simp [str0]
  have l0 := fun m => strC_len (hSb m)
  (simp -dsimp only [↓z_put, Nat.reduceLT, ↓z_ops_plain, ↓z_alloc, ↓y_zr34, ↓z_new, ↓z_nm_nil, ↓z_pg_cons, ↓z_mn_agg, ↓z_mn_int, ↓z_mn_sl, ↓z_mn_bool, ↓z_mn_str, ↓z_pg_env, ↓z_pg_env0, ↓z_store, ↓evW_tmp, ↓lkW_cons, ↓reduceIte, Nat.reduceEqDiff, ↓y_sz34, ↓z_cl_agg, ↓z_store_ptr, ↓lkoW_cons, Nat.zero_add, List.length_cons, List.length_nil, Nat.reduceAdd, Nat.reduceLeDiff, ↓spsW_cons, ↓drW_cons, reduceCtorEq, Nat.reduceSub, ↓drW_nil, ↓z_cat_nil_r, ↓z_so_cons, ↓z_put_none, ↓z_ops_nil, ↓z_seq_nrm, ↓z_seq, ↓z_region, ↓z_assign, ↓evW_const, ↓constW_int, inR_i64, Int.reduceNeg, Int.reduceLE, and_self, ↓z_block, ↓z_loop, true_and])
  have ht : n.tmod (ps.length + 1) = n % (ps.length + 1) := Int.tmod_eq_emod_of_nonneg hn0
  obtain ⟨c, hc, hc2⟩ : ∃ c : Nat, n.tmod (ps.length + 1) = (c : Int) ∧ c ≤ ps.length := ⟨(n % (ps.length + 1)).toNat, by rw [ht]; have := Int.emod_nonneg n (show ((ps.length : Int) + 1) ≠ 0 by omega); omega, by have := Int.emod_lt_of_pos n (show (0 : Int) < ps.length + 1 by omega); omega⟩
  have lw := fun i : Nat => l0 (ps.take i).flatten
  refine ⟨l0 [], hold_intro ⟨[], Nat, fun i => ⟨94, 1, [(10, .int .i64 i), (9, .ptr 0 0), (8, .int .i64 c), (7, .bool true), (0, .sl 1 ps.length (ps.map D.str)), (1, .str t)], [(0, strC (addS str0 (ps.take i).flatten))]⟩, fun i => i ≤ c, fun i => c - i, ?_, ?_⟩⟩
  · (simp -dsimp only [↓z_ad_nil, ↓z_wk, ↓z_wkE_cons, ↓lkW_cons, ↓reduceIte, D.int.injEq, true_and, Nat.reduceEqDiff, hc, reduceCtorEq, Nat.zero_add, ↓z_wkE_nil, and_self, and_true, ↓z_wkO_cons, ↓lkoW_cons, ↓z_wkO_nil]); (try simp only [Int.toNat_natCast, Nat.mul_one, Bool.or_false, Bool.false_or, Bool.or_self, Bool.or_true])
    exact ⟨0, by omega, rfl, rfl⟩
  rintro i hi
  have t1 : List.take 73 (List.drop 0 (strC (addS str0 (ps.take i).flatten))) = strC (addS str0 (ps.take i).flatten) := List.take_of_length_le (by rw [List.drop_zero, lw]; omega)
  (simp -dsimp only [↓z_seq, ↓z_region, ↓z_ops_plain, ↓z_move, ↓evW_tmp, ↓lkW_cons, ↓reduceIte, ↓z_put, Nat.reduceLT, Nat.reduceEqDiff, ↓z_binOp, ↓z_bn_lss, ↓z_ops_nil, ↓z_seq_nrm, ↓z_cond, ↓z_cnd, ↓z_gdt, ↓z_skip, ↓z_block, ↓z_region_d, ↓y_mix, true_and, ↓z_exit, ↓z_seq_ext, ↓z_lp_ext, ↓z_blk_ext, ↓z_load, ↓y_ty34, ↓y_sz34, ↓z_agTy_st, ↓loadW_ptr, ↓lkoW_cons, ↓z_rd_t, Nat.zero_add, ↓z_alloc, ↓y_zr34, ↓z_new, ↓z_nm_cons, nmC_str, ↓z_nm_nil, ↓z_pg_cons, ↓z_mn_oag, ↓z_mn_bool, ↓z_mn_int, ↓z_mn_ptr, reduceCtorEq, ↓z_mn_sl, ↓z_mn_str, ↓z_pg_nil, ↓z_store, ↓z_cl_oag, ↓z_store_ptr, List.length_cons, List.length_nil, Nat.reduceAdd, Nat.reduceLeDiff, ↓spsW_cons, ↓drW_cons, Nat.reduceSub, ↓drW_nil, ↓z_cat_nil_r, ↓z_so_cons, ↓z_put_none, ↓z_assign, ↓z_loop, z_sub, t1, z_ite])
  refine ⟨fun h => rgn_d (by decide +kernel) ?_, fun h => ?_⟩
  · have hi2 : i < ps.length := by omega
    have hs := flat_s hi2
    have hle := h1.2 _ (List.getElem_mem hi2)
    have hf := flat_le ps i
    have hfl := few_flat h1
    have f1 : Fn GH Tryd.prog 17 [.agg (strC (addS str0 (ps.take i).flatten)), .str ps[i]] (.agg (strC (addS str0 (ps.take (i + 1)).flatten))) := (fn_Add _ (hSb _) ps[i] (by rw [hSn]; omega)).out (by rw [hs, addS_app])
    (simp -dsimp only [↓z_drw_load, ↓z_drwS, ↓z_grd_none, ↓z_withE, ↓z_rd_tmp, ↓lkW_cons, Nat.reduceEqDiff, ↓reduceIte, ↓z_rd_nil, ↓z_ap_cons, ↓z_ap_nil, ↓z_or_load, ↓z_load, ↓evW_tmp, ↓y_ty34, ↓y_sz34, ↓z_agTy_st, ↓loadW_ptr, ↓lkoW_cons, ↓z_rd_t, Nat.zero_add, and_true, z_sub, t1, ↓z_exD_all, ↓z_exD_and, ↓z_exD_eq, ↓z_put, Nat.reduceLT, ↓z_drwK, ↓z_drw_move, reduceCtorEq, ↓z_or_move, ↓z_move, ↓z_drw_indexAddr, ↓z_or_indexAddr, ↓z_indexAddr, ↓y_ty27, ↓z_elTy_sl, ↓y_sz9, ↓z_ix_sl, Nat.mul_one, true_and, ↓y_ty9, ↓z_agTy_str, ↓loadW_rop, ↓z_rd_f, ↓z_nth_str, ↓z_exD_ex, ↓z_drw_callv, ↓z_rd_func]); (try simp only [Int.toNat_natCast])
    refine ⟨by rw [lw]; omega, by omega, by omega, hi2, ?_⟩
    refine ex_mk (.agg (strC (addS str0 (ps.take (i + 1)).flatten))) (fun E => ?_) ?_
    · (simp -dsimp only [↓z_ap_cons, ↓z_ap_nil, ↓z_callv, ↓evW_func, ↓z_evL_cons, ↓evW_tmp, ↓lkW_cons, ↓reduceIte, Nat.reduceEqDiff, ↓z_evL_nil, ↓z_fun0, ↓z_coeL_cons, ↓z_coe_oag, ↓z_coe_str, ↓z_coeL_nil]); (try simp only [Int.toNat_natCast, Nat.mul_one, Bool.or_false, Bool.false_or, Bool.or_self, Bool.or_true])
      rw [coe_str]
      exact call_fn f1 fun _ => ⟨rfl, rfl⟩
    (simp -dsimp only [↓z_put, Nat.reduceLT, ↓z_drwK, ↓z_drw_store, ↓z_ops_plain, ↓z_store, ↓evW_tmp, ↓lkW_cons, Nat.reduceEqDiff, ↓reduceIte, ↓y_sz34, ↓z_cl_agg, ↓z_store_ptr, ↓lkoW_cons, Nat.zero_add, ↓z_so_cons, ↓z_put_none, ↓z_ops_nil, ↓z_blk_nrm, ↓z_seq_nrm, ↓z_region, ↓z_move, ↓z_binOp, ↓evW_const, ↓constW_int, inR_i64, Int.reduceNeg, Int.reduceLE, and_self, ↓z_bn_add, ↓wrW_i64, ↓z_assign, ↓z_lp_nrm, ↓z_wk, ↓z_wkE_cons, D.int.injEq, true_and, reduceCtorEq, ↓z_wkE_nil, and_true, ↓z_wkO_cons, ↓z_wkO_nil, z_sps]); (try simp only [Int.toNat_natCast, Nat.mul_one, Bool.or_false, Bool.false_or, Bool.or_self, Bool.or_true])
    refine ⟨lw (i + 1), by rw [lw]; omega, by omega, i + 1, by omega, by omega, by omega, ?_⟩
    rw [List.take_zero, List.nil_append, List.drop_of_length_le (by rw [lw]; omega), List.append_nil]
  · obtain rfl : i = c := by omega
    refine ⟨by rw [lw]; omega, ?_⟩
    rw [mnL_str]
    refine ⟨lw i, ?_⟩
    rw [t1]
    refine hold_intro ⟨[], Nat, fun j => ⟨94, 2, [(12, .int .i64 j), (11, .ptr 1 0), (9, .ptr 0 0), (8, .int .i64 i), (7, .bool true), (0, .sl 1 ps.length (ps.map D.str)), (1, .str t)], [(1, strC (addS str0 (ps.take i).flatten)), (0, strC (addS str0 (ps.take j).flatten))]⟩, fun j => j ≤ ps.length, fun j => ps.length - j, ?_, ?_⟩
    · (simp -dsimp only [↓z_ad_nil, ↓z_wk, ↓z_wkE_cons, ↓lkW_cons, ↓reduceIte, D.int.injEq, true_and, Nat.reduceEqDiff, reduceCtorEq, ↓z_wkE_nil, and_self, and_true, ↓z_wkO_cons, ↓lkoW_cons, ↓z_wkO_nil]); (try simp only [Int.toNat_natCast, Nat.mul_one, Bool.or_false, Bool.false_or, Bool.or_self, Bool.or_true])
      exact ⟨i, by omega, rfl, rfl⟩
    rintro j hj
    have t2 : List.take 73 (List.drop 0 (strC (addS str0 (ps.take j).flatten))) = strC (addS str0 (ps.take j).flatten) := List.take_of_length_le (by rw [List.drop_zero, lw]; omega)
    (simp -dsimp only [↓z_seq, ↓z_region, ↓z_ops_plain, ↓z_move, ↓evW_tmp, ↓lkW_cons, ↓reduceIte, ↓z_put, Nat.reduceLT, reduceCtorEq, ↓z_callb, ↓z_evL_cons, ↓z_evL_nil, ↓z_len, ↓y_ty27, ↓z_ln_sl, ↓z_binOp, Nat.reduceEqDiff, ↓z_bn_lss, ↓z_ops_nil, ↓z_seq_nrm, ↓z_cond, ↓z_cnd, ↓z_gdt, ↓z_skip, ↓z_block, ↓z_region_d, ↓y_mix, true_and, ↓z_exit, ↓z_seq_ext, ↓z_lp_ext, ↓z_blk_ext, ↓z_load, ↓y_ty34, ↓y_sz34, ↓z_agTy_st, ↓loadW_ptr, ↓lkoW_cons, ↓z_rd_t, Nat.zero_add, ↓z_callv, ↓evW_func, ↓z_fun0, ↓z_coeL_cons, ↓z_coe_oag, ↓z_coe_str, ↓z_coeL_nil, z_sub, t1, z_ite]); (try simp only [Int.toNat_natCast, Nat.mul_one, Bool.or_false, Bool.false_or, Bool.or_self, Bool.or_true])
    refine ⟨fun h => rgn_d (by decide +kernel) ?_, fun h => ?_⟩
    · have hi2 : j < ps.length := by omega
      have hs := flat_s hi2
      have hle := h1.2 _ (List.getElem_mem hi2)
      have hf := flat_le ps j
      have hfl := few_flat h1
      have f1 : Fn GH Tryd.prog 17 [.agg (strC (addS str0 (ps.take j).flatten)), .str ps[j]] (.agg (strC (addS str0 (ps.take (j + 1)).flatten))) := (fn_Add _ (hSb _) ps[j] (by rw [hSn]; omega)).out (by rw [hs, addS_app])
      (simp -dsimp only [↓z_drw_load, ↓z_drwS, ↓z_grd_none, ↓z_withE, ↓z_rd_tmp, ↓lkW_cons, Nat.reduceEqDiff, ↓reduceIte, ↓z_rd_nil, ↓z_ap_cons, ↓z_ap_nil, ↓z_or_load, ↓z_load, ↓evW_tmp, ↓y_ty34, ↓y_sz34, ↓z_agTy_st, ↓loadW_ptr, ↓lkoW_cons, reduceCtorEq, ↓z_rd_t, Nat.zero_add, and_true, z_sub, t2, ↓z_exD_all, ↓z_exD_and, ↓z_exD_eq, ↓z_put, Nat.reduceLT, ↓z_drwK, ↓z_drw_move, ↓z_or_move, ↓z_move, ↓z_drw_indexAddr, ↓z_or_indexAddr, ↓z_indexAddr, ↓y_ty27, ↓z_elTy_sl, ↓y_sz9, ↓z_ix_sl, Nat.mul_one, true_and, ↓y_ty9, ↓z_agTy_str, ↓loadW_rop, ↓z_rd_f, ↓z_nth_str, ↓z_exD_ex, ↓z_drw_callv, ↓z_rd_func]); (try simp only [Int.toNat_natCast])
      refine ⟨by rw [lw]; omega, by omega, by omega, hi2, ?_⟩
      refine ex_mk (.agg (strC (addS str0 (ps.take (j + 1)).flatten))) (fun E => ?_) ?_
      · (simp -dsimp only [↓z_ap_cons, ↓z_ap_nil, ↓z_callv, ↓evW_func, ↓z_evL_cons, ↓evW_tmp, ↓lkW_cons, ↓reduceIte, Nat.reduceEqDiff, ↓z_evL_nil, ↓z_fun0, ↓z_coeL_cons, ↓z_coe_oag, ↓z_coe_str, ↓z_coeL_nil]); (try simp only [Int.toNat_natCast, Nat.mul_one, Bool.or_false, Bool.false_or, Bool.or_self, Bool.or_true])
        rw [coe_str]
        exact call_fn f1 fun _ => ⟨rfl, rfl⟩
      (simp -dsimp only [↓z_put, Nat.reduceLT, ↓z_drwK, ↓z_drw_store, ↓z_ops_plain, ↓z_store, ↓evW_tmp, ↓lkW_cons, Nat.reduceEqDiff, ↓reduceIte, ↓y_sz34, ↓z_cl_agg, ↓z_store_ptr, ↓lkoW_cons, reduceCtorEq, Nat.zero_add, ↓z_so_cons, ↓z_put_none, ↓z_ops_nil, ↓z_blk_nrm, ↓z_seq_nrm, ↓z_region, ↓z_move, ↓z_binOp, ↓evW_const, ↓constW_int, inR_i64, Int.reduceNeg, Int.reduceLE, and_self, ↓z_bn_add, ↓wrW_i64, ↓z_assign, ↓z_lp_nrm, ↓z_wk, ↓z_wkE_cons, D.int.injEq, true_and, ↓z_wkE_nil, and_true, ↓z_wkO_cons, ↓z_wkO_nil, z_sps]); (try simp only [Int.toNat_natCast, Nat.mul_one, Bool.or_false, Bool.false_or, Bool.or_self, Bool.or_true])
      refine ⟨lw (j + 1), by rw [lw]; omega, by omega, j + 1, by omega, by omega, by omega, ?_⟩
      rw [List.take_zero, List.nil_append, List.drop_of_length_le (by rw [lw]; omega), List.append_nil]
    · obtain rfl : j = ps.length := by omega
      have hfl := few_flat h1
      have hf := flat_le ps i
      have jl : (ps.take i).length = i := by rw [List.length_take]; omega
      have f3 : Fn GH Tryd.prog 17 [.agg (strC (addS str0 (ps.take i).flatten)), .str t] (.agg (strC (addS str0 ((ps.take i).flatten ++ t)))) := (fn_Add _ (hSb _) t (by rw [hSn]; omega)).out (by rw [addS_app])
      have f4 : Fn GH Tryd.prog 18 [.sl 1 i ((List.take (i * 1) (List.drop 0 ps)).map D.str)] (.str (ps.take i).flatten) := (fn_Joined GH (ps.take i) (by omega)).inp (by rw [jl, Nat.mul_one, List.drop_zero])
      refine ⟨by rw [lw]; omega, ?_⟩
      rw [coe_str]
      refine call_fnL f3 (flS_str _) fun _ => ?_
      (simp -dsimp only [↓z_put, Nat.reduceLT, ↓z_ops_plain, ↓z_alloc, ↓y_zr34, ↓z_new, ↓z_nm_cons, ↓z_nm_nil, ↓z_pg_cons, ↓z_mn_agg, ↓z_mn_str, ↓z_mn_oag, ↓z_mn_bool, ↓z_mn_int, ↓z_mn_sl, ↓z_mn_ptr, Nat.reduceEqDiff, ↓reduceIte, reduceCtorEq, ↓z_pg_nil, ↓z_store, ↓evW_tmp, ↓lkW_cons, ↓y_sz34, ↓z_cl_agg, ↓z_store_ptr, ↓lkoW_cons, Nat.zero_add, List.length_cons, List.length_nil, Nat.reduceAdd, Nat.reduceLeDiff, ↓spsW_cons, ↓drW_cons, Nat.reduceSub, ↓drW_nil, ↓z_cat_nil_r, ↓z_so_cons, ↓z_put_none, ↓z_ops_nil, ↓z_seq_nrm, ↓z_seq, ↓z_region, ↓z_move, ↓z_callv, ↓evW_func, ↓z_evL_cons, ↓z_evL_nil, ↓z_fun0, ↓z_coeL_cons, ↓z_coe_sl, ↓z_coeL_nil, true_and])
      refine ⟨of_eq_true (nmC_str _ _), of_eq_true (nmC_str _ _), ?_⟩
      rw [t1, mnL_str]
      refine ⟨l0 _, ?_⟩
      refine call_fn (fn_Joined GH ps (by omega)) fun _ => ?_
      (simp -dsimp only [↓z_put, Nat.reduceLT, ↓z_ops_plain, ↓z_assign, ↓evW_tmp, ↓lkW_cons, ↓reduceIte, ↓z_ops_nil, ↓z_seq_nrm, ↓z_seq, ↓z_region, ↓z_move, reduceCtorEq, Nat.reduceEqDiff, ↓z_slice, ↓z_evO_none, ↓z_bo_none, ↓z_evO_some, ↓z_bo_some, ↓y_ty27, ↓z_seTy_sl, ↓y_sz9, ↓z_slc_sl_nh, ↓z_sub_map, ↓z_callv, ↓evW_func, ↓z_evL_cons, ↓z_evL_nil, ↓z_fun0, ↓z_coeL_cons, ↓z_coe_sl, ↓z_coeL_nil, true_and]); (try simp only [Int.toNat_natCast])
      refine ⟨by omega, by omega, ?_⟩
      refine call_fn f4 fun _ => ?_
      have t3 : ∀ m, List.take 73 (List.drop 0 (strC (addS str0 m))) = strC (addS str0 m) := fun m => List.take_of_length_le (by rw [List.drop_zero, l0]; omega)
      have lp : ps.take ps.length = ps := List.take_length
      have hs : ∀ m : List UInt8, m.length ≤ 100000 → Fn GH Tryd.prog 19 [.agg (strC (addS str0 m))] (.agg ((sha m).map bD)) := fun m hm => (fn_Sum (addS str0 m) (hSb _) (by rw [hSn]; omega)).out rfl
      have hh : ∀ m : List UInt8, m.length ≤ 100000 → Fn GH Tryd.prog 13 [.sl 1 m.length (m.map bD)] (.agg ((sha m).map bD)) := fun m hm => fn_hSum m (by omega)
      (simp -dsimp only [↓z_put, Nat.reduceLT, ↓z_ops_plain, ↓z_assign, ↓evW_tmp, ↓lkW_cons, ↓reduceIte, ↓z_ops_nil, ↓z_seq_nrm, ↓z_seq, ↓z_region, ↓z_move, Nat.reduceEqDiff, ↓z_ops_guard, ↓z_grd, ↓z_dst_s, ↓z_dst_0, ↓z_grdD_b, ↓z_gtt, ↓z_load, ↓y_ty34, ↓y_sz34, ↓z_agTy_st, ↓loadW_ptr, ↓lkoW_cons, reduceCtorEq, ↓z_rd_t, Nat.zero_add, lp, ↓z_callv, ↓evW_func, ↓z_evL_cons, ↓z_evL_nil, ↓z_fun0, ↓z_coeL_cons, ↓z_coe_oag, Nat.reduceAdd, Nat.mul_one, ↓z_coeL_nil, true_and, z_sub, t3]); (try simp only [Int.toNat_natCast, Nat.mul_one, Bool.or_false, Bool.false_or, Bool.or_self, Bool.or_true])
      refine ⟨by rw [l0]; omega, ?_⟩
      rw [coe_str]
      have la := sha_len ps.flatten
      have lb := sha_len (ps.take i).flatten
      have lc := sha_len ((ps.take i).flatten ++ t)
      refine call_wk ⟨94, 3, [(68, .bool true), (9, .ptr 0 0), (11, .ptr 1 0), (13, .ptr 2 0), (14, .str ps.flatten), (15, .str (ps.take i).flatten), (1, .str t)], [(2, strC (addS str0 ((ps.take i).flatten ++ t))), (1, strC (addS str0 (ps.take i).flatten)), (0, strC (addS str0 ps.flatten))]⟩ (by (simp -dsimp only [↓z_wk, ↓z_wkE_cons, ↓lkW_cons, ↓reduceIte, Nat.reduceEqDiff, reduceCtorEq, ↓z_wkE_nil, and_self, ↓z_wkO_cons, ↓lkoW_cons, lp, ↓z_wkO_nil]); (try simp only [Int.toNat_natCast, Nat.mul_one, Bool.or_false, Bool.false_or, Bool.or_self, Bool.or_true])) (call0_fnL (hs ps.flatten (by omega)) (flS_bytes _) fun _ => ?_)
      (simp -dsimp only [↓z_put, Nat.reduceLT, ↓z_ops_guard, ↓z_grd, ↓z_dst_s, ↓z_dst_0, ↓lkW_cons, Nat.reduceEqDiff, ↓reduceIte, ↓z_grdD_b, ↓z_gtt, ↓z_move, ↓evW_tmp, ↓z_convert, ↓y_ty9, ↓y_ty22, ↓z_cvt_sb, ↓y_ty5, ↓z_u8, ↓z_cv_sb, maxLen_lit, ↓z_new, ↓z_nm_cons, nmC_str, ↓z_nm_nil, ↓z_pg_cons, ↓z_mn_bool, ↓z_mn_str, ↓z_mn_agg, ↓z_mn_ptr, reduceCtorEq, ↓z_pg_nil, ↓z_callv, ↓evW_func, ↓z_evL_cons, ↓z_evL_nil, ↓z_fun0, ↓z_coeL_cons, ↓z_coe_osl, ↓lkoW_cons, ↓z_allP_bytes, List.length_map, Nat.mul_one, ↓z_coeL_nil, true_and]); (try simp only [Int.toNat_natCast, Nat.mul_one, Bool.or_false, Bool.false_or, Bool.or_self, Bool.or_true])
      refine ⟨by omega, ?_⟩
      refine call_fnL (hh ps.flatten (by omega)) (flS_bytes _) fun _ => ?_
      (simp -dsimp only [↓z_put, Nat.reduceLT, ↓z_ops_guard, ↓z_grd, ↓z_dst_s, ↓z_dst_0, ↓lkW_cons, Nat.reduceEqDiff, ↓reduceIte, ↓z_grdD_b, ↓z_gtt, ↓z_binOp, ↓evW_tmp, ↓z_bn_aeql, ↓y_fk24, ↓kdM_bytes, ↓z_ops_plain, ↓z_pick, ↓z_pick_b, ↓z_move, ↓z_geqt, ↓z_load, ↓y_ty34, ↓y_sz34, ↓z_agTy_st, ↓loadW_ptr, ↓lkoW_cons, ↓z_rd_t, Nat.zero_add, ↓z_callv, ↓evW_func, ↓z_evL_cons, ↓z_evL_nil, ↓z_fun0, ↓z_coeL_cons, ↓z_coe_oag, Nat.reduceAdd, ↓z_coeL_nil, true_and, z_sub, not_true_eq_false, ↓z_gnt, ↓z_gtf, ↓evW_const, ↓constW_bool, ↓z_gft, ↓z_assign, ↓z_ops_nil, ↓z_seq_nrm, ↓z_ret, ↓z_end_rt, resLW, res1W, Bool.not_true, ↓z_pack1, ↓z_coe_bool, D.bool.injEq, reduceCtorEq]); (try simp only [Int.toNat_natCast, Nat.mul_one, Bool.or_false, Bool.false_or, Bool.or_self, Bool.or_true])
      refine ⟨la, la, fun _ => ⟨by rw [lw]; omega, ?_⟩, ?_⟩
      · rw [t3, coe_str]
        refine call_wk ⟨94, 4, [(76, .bool true), (11, .ptr 1 0), (13, .ptr 2 0), (15, .str (ps.take i).flatten), (1, .str t)], [(2, strC (addS str0 ((ps.take i).flatten ++ t))), (1, strC (addS str0 (ps.take i).flatten))]⟩ (by (simp -dsimp only [↓z_wk, ↓z_wkE_cons, ↓lkW_cons, ↓reduceIte, Nat.reduceEqDiff, ↓z_wkE_nil, and_self, ↓z_wkO_cons, ↓lkoW_cons, ↓z_wkO_nil]); (try simp only [Int.toNat_natCast, Nat.mul_one, Bool.or_false, Bool.false_or, Bool.or_self, Bool.or_true])) (call0_fnL (hs (ps.take i).flatten (by omega)) (flS_bytes _) fun _ => ?_)
        (simp -dsimp only [↓z_put, Nat.reduceLT, ↓z_ops_guard, ↓z_grd, ↓z_dst_s, ↓z_dst_0, ↓lkW_cons, Nat.reduceEqDiff, ↓reduceIte, ↓z_grdD_b, ↓z_gtt, ↓z_move, ↓evW_tmp, ↓z_convert, ↓y_ty9, ↓y_ty22, ↓z_cvt_sb, ↓y_ty5, ↓z_u8, ↓z_cv_sb, maxLen_lit, ↓z_new, ↓z_nm_cons, nmC_str, ↓z_nm_nil, ↓z_pg_cons, ↓z_mn_bool, ↓z_mn_str, ↓z_mn_agg, ↓z_mn_ptr, ↓z_pg_nil, ↓z_callv, ↓evW_func, ↓z_evL_cons, ↓z_evL_nil, ↓z_fun0, ↓z_coeL_cons, ↓z_coe_osl, ↓lkoW_cons, ↓z_allP_bytes, List.length_map, Nat.mul_one, ↓z_coeL_nil, true_and]); (try simp only [Int.toNat_natCast, Nat.mul_one, Bool.or_false, Bool.false_or, Bool.or_self, Bool.or_true])
        refine ⟨by omega, ?_⟩
        refine call_fnL (hh (ps.take i).flatten (by omega)) (flS_bytes _) fun _ => ?_
        (simp -dsimp only [↓z_put, Nat.reduceLT, ↓z_ops_guard, ↓z_grd, ↓z_dst_s, ↓z_dst_0, ↓lkW_cons, Nat.reduceEqDiff, ↓reduceIte, ↓z_grdD_b, ↓z_gtt, ↓z_binOp, ↓evW_tmp, ↓z_bn_aeql, ↓y_fk24, ↓kdM_bytes, ↓z_ops_plain, ↓z_pick, ↓z_pick_b, ↓z_move, ↓z_geqt, ↓z_load, ↓y_ty34, ↓y_sz34, ↓z_agTy_st, ↓loadW_ptr, ↓lkoW_cons, ↓z_rd_t, Nat.zero_add, ↓z_callv, ↓evW_func, ↓z_evL_cons, ↓z_evL_nil, ↓z_fun0, ↓z_coeL_cons, ↓z_coe_oag, Nat.reduceAdd, ↓z_coeL_nil, true_and, z_sub, not_true_eq_false, ↓z_gnt, ↓z_gtf, ↓evW_const, ↓constW_bool, ↓z_assign, ↓z_ops_nil, ↓z_seq_nrm, ↓z_ret, ↓z_end_rt, resLW, res1W, Bool.not_true, ↓z_pack1, ↓z_coe_bool, D.bool.injEq, reduceCtorEq]); (try simp only [Int.toNat_natCast, Nat.mul_one, Bool.or_false, Bool.false_or, Bool.or_self, Bool.or_true])
        refine ⟨lb, lb, fun _ => ⟨by rw [l0]; omega, ?_⟩, fun h => h.elim⟩
        rw [t3, coe_str]
        refine call_wk ⟨94, 5, [(84, .bool true), (13, .ptr 2 0), (15, .str (ps.take i).flatten), (1, .str t)], [(2, strC (addS str0 ((ps.take i).flatten ++ t)))]⟩ (by (simp -dsimp only [↓z_wk, ↓z_wkE_cons, ↓lkW_cons, ↓reduceIte, Nat.reduceEqDiff, ↓z_wkE_nil, and_self, ↓z_wkO_cons, ↓lkoW_cons, ↓z_wkO_nil]); (try simp only [Int.toNat_natCast, Nat.mul_one, Bool.or_false, Bool.false_or, Bool.or_self, Bool.or_true])) (call0_fnL (hs ((ps.take i).flatten ++ t) (by rw [List.length_append]; omega)) (flS_bytes _) fun _ => ?_)
        (simp -dsimp only [↓z_put, Nat.reduceLT, ↓z_ops_guard, ↓z_grd, ↓z_dst_s, ↓z_dst_0, ↓lkW_cons, Nat.reduceEqDiff, ↓reduceIte, ↓z_grdD_b, ↓z_gtt, ↓z_move, ↓evW_tmp, ↓z_binOp, ↓z_bn_sadd, maxLen_lit, ↓z_convert, ↓y_ty9, ↓y_ty22, ↓z_cvt_sb, ↓y_ty5, ↓z_u8, ↓z_cv_sb, List.length_append, ↓z_new, ↓z_nm_cons, nmC_str, ↓z_nm_nil, ↓z_pg_cons, ↓z_mn_bool, ↓z_mn_str, ↓z_mn_agg, ↓z_mn_ptr, ↓z_pg_nil, ↓z_callv, ↓evW_func, ↓z_evL_cons, ↓z_evL_nil, ↓z_fun0, ↓z_coeL_cons, ↓z_coe_osl, ↓lkoW_cons, ↓z_allP_bytes, List.length_map, Nat.mul_one, ↓z_coeL_nil, true_and]); (try simp only [Int.toNat_natCast, Nat.mul_one, Bool.or_false, Bool.false_or, Bool.or_self, Bool.or_true])
        refine ⟨by omega, by omega, ?_⟩
        refine call_fnL (hh ((ps.take i).flatten ++ t) (by rw [List.length_append]; omega)) (flS_bytes _) fun _ => ?_
        (simp -dsimp only [↓z_put, Nat.reduceLT, ↓z_ops_guard, ↓z_grd, ↓z_dst_s, ↓z_dst_0, ↓lkW_cons, Nat.reduceEqDiff, ↓reduceIte, ↓z_grdD_b, ↓z_gtt, ↓z_binOp, ↓evW_tmp, ↓z_bn_aeql, ↓y_fk24, ↓kdM_bytes, ↓z_ops_plain, ↓z_pick, ↓z_pick_b, ↓z_assign, ↓z_ops_nil, ↓z_seq_nrm, ↓z_ret, ↓z_end_rt, resLW, res1W, List.length_append, ↓z_coeL_cons, Nat.reduceAdd, ↓z_coeL_nil, ↓z_pack1, ↓z_coe_bool, D.bool.injEq, true_and]); (try simp only [Int.toNat_natCast, Nat.mul_one, Bool.or_false, Bool.false_or, Bool.or_self, Bool.or_true])
        exact ⟨lc, lc, by rw [eqB_iff]⟩
      · exact fun h => h.elim
end Go.Abs

