/-
  DOM, third walks: sizes; the domain of a disk.
-/
import Derived.Test.YtffcdocmabefiaaD2
namespace Go.Abs
open Go.Proofs

theorem chk_ok {d : List Int} {r : List (Int × Bool)} {h : List Int} {o : Int} (hc : chk d r h o = 0) : d.length ≤ 64 ∧ r.length ≤ 24 ∧ h.length ≤ 12 ∧ 0 ≤ o ∧ o ≤ 8 ∧
    (∀ x ∈ d, 0 ≤ x ∧ x < r.length) ∧ (∀ x ∈ r, 0 ≤ x.1 ∧ x.1 < h.length) ∧ ∀ x ∈ h, 0 ≤ x ∧ x < o := by
  unfold chk at hc
  split at hc
  · cases hc
  rename_i h1
  split at hc
  · cases hc
  rename_i h2
  have a1 : ¬ d.any (outB r.length) = true := fun h => h2 (.inl h)
  have a2 : ¬ h.any (outB o) = true := fun h => h2 (.inr (.inl h))
  have a3 : ¬ r.any (fun x => outB h.length x.1) = true := fun h => h2 (.inr (.inr h))
  simp only [List.any_eq_true, outB, decide_eq_true_eq, not_exists, not_and] at a1 a2 a3
  exact ⟨by omega, by omega, by omega, by omega, by omega, fun x hx => by have := a1 x hx; omega, fun x hx => by have := a3 x hx; omega, fun x hx => by have := a2 x hx; omega⟩
/-- The domain of a level in which disk k is. -/
def upD (d : List Int) (r : List (Int × Bool)) (h : List Int) (lv k : Int) : Int :=
  if lv = 0 then k else if lv = 1 then d.getD k.toNat 0 else if lv = 2 then (r.getD (d.getD k.toNat 0).toNat (0, false)).1 else h.getD (r.getD (d.getD k.toNat 0).toNat (0, false)).1.toNat 0
def ofD (d : List Int) (r : List (Int × Bool)) (h : List Int) (o lv k : Int) : Int :=
  if chk d r h o ≠ 0 ∨ lv < 0 ∨ 3 < lv ∨ k < 0 ∨ d.length ≤ k then -1 else upD d r h lv k
def sizeD (d : List Int) (r : List (Int × Bool)) (h : List Int) (o lv : Int) : Int :=
  if chk d r h o ≠ 0 ∨ lv < 0 ∨ 3 < lv then 0 else if lv = 0 then d.length else if lv = 1 then r.length else if lv = 2 then h.length else o
theorem getD_at {α : Type} {l : List α} {x : α} {i : Nat} (h : i < l.length) : l.getD i x = l[i] := by simp [List.getD_eq_getElem?_getD, h]
set_option maxRecDepth 100000 in
set_option maxHeartbeats 8000000 in
theorem fn_climb (G : Glob) (d : List Int) (r : List (Int × Bool)) (h : List Int) (o lv k : Int) (hc : chk d r h o = 0) (h0 : 0 ≤ lv) (h3 : lv ≤ 3) (hk : 0 ≤ k) (hkd : k < d.length) : Fn G Try.prog 29 [.agg [.sl 1 d.length (d.map (D.int .i64)), .sl 2 r.length (List.flatMap rkC r), .sl 1 h.length (h.map (D.int .i64)), .int .i64 o], .int .i64 0, .int .i64 lv, .int .i64 k] (.int .i64 (upD d r h lv k)) := by
  refine Fn.mk (c := _) Try.func29 rfl rfl Try.ntmps29 Try.results29 ?_
  obtain ⟨c1, c2, c3, c4, c5, c6, c7, c8⟩ := chk_ok hc
  (simp -dsimp only [bodyW, List.length_cons, List.length_nil, Nat.zero_add, Nat.reduceAdd, Nat.reduceLeDiff, wfL, ↓z_seq, ↓z_region, ↓z_ops_plain, ↓z_box, ↓evW_tmp, ↓z_lk_env, ↓reduceIte, ↓z_cl_agg, ↓z_nmC_cons, ↓z_mn'_sl, ↓z_mn'_int, ↓z_nmC_nil, and_self, ↓z_new, ↓z_nm_nil, Nat.reduceLT, ↓z_pg_env, ↓z_mn_agg, ↓z_mn_int, ↓z_pg_env0, ↓z_put, ↓z_assign, ↓evW_const, ↓constW_int, inR_i64, Int.reduceNeg, Int.reduceLE, ↓z_ops_nil, ↓z_seq_nrm, ↓z_move, ↓lkW_cons, Nat.reduceEqDiff, reduceCtorEq, ↓z_block, ↓z_binOp, ↓z_bn_eql, ↓z_cond, ↓z_cnd, ↓z_gdt, ↓z_exit, ↓z_seq_ext, ↓z_blk_ext, ↓z_ret, ↓z_seq_rt, ↓z_blk_rt, ↓z_end_rt, resLW, res1W, ↓z_coeL_cons, ↓z_coeL_nil, ↓z_pack1, ↓z_coe_int, D.int.injEq, true_and, ↓z_skip, ↓z_fieldAddr, ↓y_fl25x0, ↓y_sz22, ne_eq, not_false_eq_true, ↓z_fa_ptr, ↓z_load, ↓y_ty22, ↓z_agTy_sl, ↓loadW_ptr, ↓lkoW_cons, ↓z_rd_f, ↓nthW_cons, ↓z_indexAddr, ↓z_elTy_sl, ↓y_sz3, ↓z_ix_sl, ↓y_ty3, ↓z_agTy_int, ↓loadW_rop, ↓z_nth_int, ↓z_blk_nrm, Nat.mul_one, ↓y_fl25x1, ↓y_sz23, ↓y_ty23, Nat.reduceSub, ↓y_sz56, ↓y_fl56x0, ↓z_fa_rop, ↓y_fl25x2, z_ite, nth_rk0]); (try simp only [Int.toNat_natCast, Nat.mul_one, Bool.or_false, Bool.false_or, Bool.or_self, Bool.or_true])
  intro hd _ _ _
  have e1 : d.getD k.toNat 0 = d[k.toNat]'(by omega) := getD_at _
  have m1 := c6 _ (List.getElem_mem (show k.toNat < d.length by omega))
  have e2 : r.getD (d[k.toNat]'(by omega)).toNat (0, false) = r[(d[k.toNat]'(by omega)).toNat]'(by omega) := getD_at _
  have m2 := c7 _ (List.getElem_mem (show (d[k.toNat]'(by omega)).toNat < r.length by omega))
  have e3 : h.getD (r[(d[k.toNat]'(by omega)).toNat]'(by omega)).1.toNat 0 = h[(r[(d[k.toNat]'(by omega)).toNat]'(by omega)).1.toNat]'(by omega) := getD_at _
  unfold upD
  rw [e1, e2, e3]
  refine ⟨fun g => by rw [if_pos g], fun g0 => ⟨hk, hkd, by omega, fun g => by rw [if_neg g0, if_pos g], fun g1 => ⟨m1.1, m1.2, by omega, fun g => by rw [if_neg g0, if_neg g1, if_pos g], fun g2 => ⟨m2.1, m2.2, by omega, by rw [if_neg g0, if_neg g1, if_neg g2]⟩⟩⟩⟩
set_option maxRecDepth 100000 in
set_option maxHeartbeats 8000000 in
theorem fn_Size (G : Glob) (d : List Int) (r : List (Int × Bool)) (h : List Int) (o lv : Int) : Fn G Try.prog 9 [.agg [.sl 1 d.length (d.map (D.int .i64)), .sl 2 r.length (List.flatMap rkC r), .sl 1 h.length (h.map (D.int .i64)), .int .i64 o], .int .i64 lv] (.int .i64 (sizeD d r h o lv)) := by
  refine Fn.mk (c := _) Try.func9 rfl rfl Try.ntmps9 Try.results9 ?_
  (simp -dsimp only [bodyW, List.length_cons, List.length_nil, Nat.zero_add, Nat.reduceAdd, Nat.reduceLeDiff, wfL, ↓z_seq, ↓z_region, ↓z_ops_plain, ↓z_box, ↓evW_tmp, ↓z_lk_env, ↓reduceIte, ↓z_cl_agg, ↓z_nmC_cons, ↓z_mn'_sl, ↓z_mn'_int, ↓z_nmC_nil, and_self, ↓z_new, ↓z_nm_nil, Nat.reduceLT, ↓z_pg_env, ↓z_mn_agg, ↓z_mn_int, ↓z_pg_env0, ↓z_put, ↓z_assign, ↓evW_const, ↓constW_int, inR_i64, Int.reduceNeg, Int.reduceLE, ↓z_ops_nil, ↓z_seq_nrm, ↓z_load, ↓lkW_cons, Nat.reduceEqDiff, ↓y_ty25, ↓y_sz25, ↓z_agTy_st, ↓loadW_ptr, ↓lkoW_cons, ↓z_rd_t, ↓z_sub_c, ↓z_sub_nil, ↓z_callv, ↓evW_func, ↓z_evL_cons, ↓z_evL_nil, ↓z_fun0, ↓z_coeL_cons, ↓z_coe_oag, ↓z_coeC_cons, ↓z_coeS_sl, ↓z_coeS_int, ↓z_coeC_nil, ↓z_coeL_nil, true_and])
  intro hd _
  refine call_fn (fn_Check G d r h o) fun _ => ?_
  (simp -dsimp only [↓z_put, Nat.reduceLT, ↓z_ops_plain, ↓z_binOp, ↓evW_tmp, ↓lkW_cons, ↓reduceIte, ↓evW_const, ↓constW_int, inR_i64, Int.reduceNeg, Int.reduceLE, and_self, ↓z_bn_neq, ↓z_move, ↓z_ops_guard, ↓z_grd, ↓z_dst_s, ↓z_dst_0, ↓z_grdD_b, ↓z_gdf, ne_eq, Nat.reduceEqDiff, ↓z_gnf, ↓z_gft, ↓z_pick, ↓z_pick_b, ↓z_gnt, ↓z_gff, ↓constW_bool, ↓z_gtf, ↓z_ops_nil, ↓z_seq_nrm, ↓z_cond, ↓z_cnd, ↓z_gtt, ↓z_seq, ↓z_region, ↓z_assign, ↓z_ret, ↓z_seq_rt, ↓z_end_rt, resLW, res1W, Bool.not_false, Nat.zero_add, ↓z_coeL_cons, ↓z_coeL_nil, ↓z_pack1, ↓z_coe_int, D.int.injEq, true_and, reduceCtorEq, ↓z_bn_lss, ↓z_bn_gtr, ↓z_gdt, ↓z_skip, ↓z_fieldAddr, ↓y_fl25x0, ↓y_sz22, not_false_eq_true, ↓z_fa_ptr, ↓z_load, ↓y_ty22, ↓z_agTy_sl, ↓loadW_ptr, ↓lkoW_cons, ↓z_rd_f, ↓nthW_cons, ↓z_callb, ↓z_evL_cons, ↓z_evL_nil, ↓z_len, ↓z_ln_sl, ↓y_fl25x1, ↓y_sz23, ↓y_ty23, Nat.reduceSub, ↓y_fl25x2, ↓y_fl25x3, ↓y_sz3, ↓y_ty3, ↓z_agTy_int, ↓z_build, ↓y_ty53, ↓z_blTy_arr, ↓y_zr53, ↓z_bld_cons, ↓z_cl_int, List.length_cons, List.length_nil, Nat.mul_one, Nat.reduceAdd, Nat.reduceLeDiff, ↓spsW_cons, ↓drW_cons, ↓catW_cons, ↓catW_nil, ↓drW_nil, ↓z_cat_nil_r, ↓z_bld_nil, ↓z_index, ↓z_in_arr, ↓z_isAg_int, ↓z_inx_arr, ↓z_fv_oag, z_ite, Classical.not_not]); (try simp only [Int.toNat_natCast, Nat.mul_one, Bool.or_false, Bool.false_or, Bool.or_self, Bool.or_true])
  unfold sizeD
  refine ⟨fun g => by rw [if_pos (.inl g)], fun g => ⟨fun g1 => by rw [if_pos (.inr (.inl g1))], fun g1 => ⟨fun g2 => by rw [if_pos (.inr (.inr g2))], fun g2 => ⟨by omega, by omega, ?_⟩⟩⟩⟩
  rw [if_neg (by omega)]
  refine ⟨fun g3 => by rw [if_pos (by omega)], fun g3 => ⟨fun g4 => by rw [if_neg (by omega), if_pos (by omega)], fun g4 => ⟨fun g5 => by rw [if_neg (by omega), if_neg (by omega), if_pos (by omega)], fun g5 => ⟨fun g6 => by rw [if_neg (by omega), if_neg (by omega), if_neg (by omega)], fun g6 => by omega⟩⟩⟩⟩
set_option maxRecDepth 100000 in
set_option maxHeartbeats 8000000 in
theorem fn_refSize (G : Glob) (d : List Int) (r : List (Int × Bool)) (h : List Int) (o lv : Int) : Fn G Try.prog 10 [.agg [.sl 1 d.length (d.map (D.int .i64)), .sl 2 r.length (List.flatMap rkC r), .sl 1 h.length (h.map (D.int .i64)), .int .i64 o], .int .i64 lv] (.int .i64 (sizeD d r h o lv)) := by
  refine Fn.mk (c := _) Try.func10 rfl rfl Try.ntmps10 Try.results10 ?_
  (simp -dsimp only [bodyW, List.length_cons, List.length_nil, Nat.zero_add, Nat.reduceAdd, Nat.reduceLeDiff, wfL, ↓z_seq, ↓z_region, ↓z_ops_plain, ↓z_box, ↓evW_tmp, ↓z_lk_env, ↓reduceIte, ↓z_cl_agg, ↓z_nmC_cons, ↓z_mn'_sl, ↓z_mn'_int, ↓z_nmC_nil, and_self, ↓z_new, ↓z_nm_nil, Nat.reduceLT, ↓z_pg_env, ↓z_mn_agg, ↓z_mn_int, ↓z_pg_env0, ↓z_put, ↓z_assign, ↓evW_const, ↓constW_int, inR_i64, Int.reduceNeg, Int.reduceLE, ↓z_ops_nil, ↓z_seq_nrm, ↓z_load, ↓lkW_cons, Nat.reduceEqDiff, ↓y_ty25, ↓y_sz25, ↓z_agTy_st, ↓loadW_ptr, ↓lkoW_cons, ↓z_rd_t, ↓z_sub_c, ↓z_sub_nil, ↓z_callv, ↓evW_func, ↓z_evL_cons, ↓z_evL_nil, ↓z_fun0, ↓z_coeL_cons, ↓z_coe_oag, ↓z_coeC_cons, ↓z_coeS_sl, ↓z_coeS_int, ↓z_coeC_nil, ↓z_coeL_nil, true_and])
  intro hd _
  refine call_fn (fn_refCheck G d r h o) fun _ => ?_
  (simp -dsimp only [↓z_put, Nat.reduceLT, ↓z_ops_plain, ↓z_binOp, ↓evW_tmp, ↓lkW_cons, ↓reduceIte, ↓evW_const, ↓constW_int, inR_i64, Int.reduceNeg, Int.reduceLE, and_self, ↓z_bn_neq, ↓z_ops_nil, ↓z_seq_nrm, ↓z_cond, ↓z_cnd, ↓z_gdt, ne_eq, ↓z_seq, ↓z_region, ↓z_assign, ↓z_ret, ↓z_seq_rt, ↓z_end_rt, resLW, res1W, Nat.zero_add, ↓z_coeL_cons, ↓z_coeL_nil, ↓z_pack1, ↓z_coe_int, D.int.injEq, true_and, ↓z_skip, ↓z_move, Nat.reduceEqDiff, reduceCtorEq, ↓z_block, ↓z_bn_eql, ↓z_fieldAddr, ↓y_fl25x0, ↓y_sz22, not_false_eq_true, ↓z_fa_ptr, ↓z_load, ↓y_ty22, ↓z_agTy_sl, ↓loadW_ptr, ↓lkoW_cons, ↓z_rd_f, ↓nthW_cons, ↓z_callb, ↓z_evL_cons, ↓z_evL_nil, ↓z_len, ↓z_ln_sl, ↓z_blk_rt, ↓y_fl25x1, ↓y_sz23, ↓y_ty23, Nat.reduceSub, ↓y_fl25x2, ↓y_fl25x3, ↓y_sz3, ↓y_ty3, ↓z_agTy_int, ↓z_blk_nrm, z_ite, Classical.not_not]); (try simp only [Int.toNat_natCast, Nat.mul_one, Bool.or_false, Bool.false_or, Bool.or_self, Bool.or_true])
  unfold sizeD
  refine ⟨fun g => by rw [if_pos (.inl g)], fun g => ⟨fun g1 => ?_, fun g1 => ⟨fun g2 => ?_, fun g2 => ⟨fun g3 => ?_, fun g3 => ⟨fun g4 => ?_, fun g4 => ?_⟩⟩⟩⟩⟩
  · rw [if_neg (by omega), if_pos g1]
  · rw [if_neg (by omega), if_neg g1, if_pos g2]
  · rw [if_neg (by omega), if_neg g1, if_neg g2, if_pos g3]
  · rw [if_neg (by omega), if_neg g1, if_neg g2, if_neg g3]
  · rw [if_pos (by omega)]
set_option maxRecDepth 100000 in
set_option maxHeartbeats 8000000 in
theorem fn_Of (G : Glob) (d : List Int) (r : List (Int × Bool)) (h : List Int) (o lv k : Int) : Fn G Try.prog 11 [.agg [.sl 1 d.length (d.map (D.int .i64)), .sl 2 r.length (List.flatMap rkC r), .sl 1 h.length (h.map (D.int .i64)), .int .i64 o], .int .i64 lv, .int .i64 k] (.int .i64 (ofD d r h o lv k)) := by
  refine Fn.mk (c := _) Try.func11 rfl rfl Try.ntmps11 Try.results11 ?_
  (simp -dsimp only [bodyW, List.length_cons, List.length_nil, Nat.zero_add, Nat.reduceAdd, Nat.reduceLeDiff, wfL, ↓z_seq, ↓z_region, ↓z_ops_plain, ↓z_box, ↓evW_tmp, ↓z_lk_env, ↓reduceIte, ↓z_cl_agg, ↓z_nmC_cons, ↓z_mn'_sl, ↓z_mn'_int, ↓z_nmC_nil, and_self, ↓z_new, ↓z_nm_nil, Nat.reduceLT, ↓z_pg_env, ↓z_mn_agg, ↓z_mn_int, ↓z_pg_env0, ↓z_put, ↓z_assign, ↓evW_const, ↓constW_int, inR_i64, Int.reduceNeg, Int.reduceLE, ↓z_ops_nil, ↓z_seq_nrm, ↓z_load, ↓lkW_cons, Nat.reduceEqDiff, ↓y_ty25, ↓y_sz25, ↓z_agTy_st, ↓loadW_ptr, ↓lkoW_cons, ↓z_rd_t, ↓z_sub_c, ↓z_sub_nil, ↓z_callv, ↓evW_func, ↓z_evL_cons, ↓z_evL_nil, ↓z_fun0, ↓z_coeL_cons, ↓z_coe_oag, ↓z_coeC_cons, ↓z_coeS_sl, ↓z_coeS_int, ↓z_coeC_nil, ↓z_coeL_nil, true_and])
  intro hd _ _
  refine call_fn (fn_Check G d r h o) fun _ => ?_
  (simp -dsimp only [↓z_put, Nat.reduceLT, ↓z_ops_plain, ↓z_binOp, ↓evW_tmp, ↓lkW_cons, ↓reduceIte, ↓evW_const, ↓constW_int, inR_i64, Int.reduceNeg, Int.reduceLE, and_self, ↓z_bn_neq, ↓z_move, ↓z_ops_guard, ↓z_grd, ↓z_dst_s, ↓z_dst_0, ↓z_grdD_b, ↓z_gdf, ne_eq, Nat.reduceEqDiff, ↓z_gnf, ↓z_gft, ↓z_pick, ↓z_pick_b, ↓z_gnt, ↓z_gff, ↓constW_bool, ↓z_gtf, ↓z_ops_nil, ↓z_seq_nrm, ↓z_cond, ↓z_cnd, ↓z_gtt, ↓z_seq, ↓z_region, ↓z_assign, ↓z_ret, ↓z_seq_rt, ↓z_end_rt, resLW, res1W, Bool.not_false, Nat.zero_add, Nat.reduceAdd, ↓z_coeL_cons, ↓z_coeL_nil, ↓z_pack1, ↓z_coe_int, D.int.injEq, true_and, reduceCtorEq, ↓z_bn_lss, ↓z_bn_gtr, ↓z_fieldAddr, ↓y_fl25x0, ↓y_sz22, not_false_eq_true, ↓z_fa_ptr, ↓z_load, ↓y_ty22, ↓z_agTy_sl, ↓loadW_ptr, ↓lkoW_cons, ↓z_rd_f, ↓nthW_cons, ↓z_callb, ↓z_evL_cons, ↓z_evL_nil, ↓z_len, ↓z_ln_sl, ↓z_bn_geq, ↓z_gdt, ↓z_skip, ↓y_ty25, ↓y_sz25, ↓z_agTy_st, ↓z_rd_t, List.length_cons, List.length_nil, Nat.reduceLeDiff, ↓z_sub_c, ↓z_sub_nil, ↓z_callv, ↓evW_func, ↓z_fun0, ↓z_coe_oag, ↓z_coeC_cons, ↓z_coeS_sl, ↓z_coeS_int, ↓z_coeC_nil, z_ite, Classical.not_not])
  unfold ofD
  refine ⟨fun g => by rw [if_pos (.inl g)], fun g => ⟨fun g1 => by rw [if_pos (.inr (.inl g1))], fun g1 => ⟨fun g2 => by rw [if_pos (.inr (.inr (.inl g2)))], fun g2 => ⟨fun g3 => by rw [if_pos (.inr (.inr (.inr (.inl g3))))], fun g3 => ⟨fun g4 => by rw [if_pos (.inr (.inr (.inr (.inr (by omega)))))], fun g4 => ?_⟩⟩⟩⟩⟩
  refine call_fn (fn_climb G d r h o lv k g (by omega) (by omega) (by omega) (by omega)) fun _ => ?_
  (simp -dsimp only [↓z_put, Nat.reduceLT, ↓z_ops_plain, ↓z_assign, ↓evW_tmp, ↓lkW_cons, ↓reduceIte, ↓z_ops_nil, ↓z_seq_nrm, ↓z_ret, ↓z_end_rt, resLW, res1W, Nat.zero_add, ne_eq, Nat.reduceAdd, ↓z_coeL_cons, ↓z_coeL_nil, ↓z_pack1, Int.reduceNeg, ↓z_coe_int, D.int.injEq, true_and]); (try simp only [Int.toNat_natCast, Nat.mul_one, Bool.or_false, Bool.false_or, Bool.or_self, Bool.or_true])
  rw [if_neg (by omega)]
set_option maxRecDepth 100000 in
set_option maxHeartbeats 8000000 in
theorem fn_refOf (G : Glob) (d : List Int) (r : List (Int × Bool)) (h : List Int) (o lv k : Int) : Fn G Try.prog 12 [.agg [.sl 1 d.length (d.map (D.int .i64)), .sl 2 r.length (List.flatMap rkC r), .sl 1 h.length (h.map (D.int .i64)), .int .i64 o], .int .i64 lv, .int .i64 k] (.int .i64 (ofD d r h o lv k)) := by
  refine Fn.mk (c := _) Try.func12 rfl rfl Try.ntmps12 Try.results12 ?_
  (simp -dsimp only [bodyW, List.length_cons, List.length_nil, Nat.zero_add, Nat.reduceAdd, Nat.reduceLeDiff, wfL, ↓z_seq, ↓z_region, ↓z_ops_plain, ↓z_box, ↓evW_tmp, ↓z_lk_env, ↓reduceIte, ↓z_cl_agg, ↓z_nmC_cons, ↓z_mn'_sl, ↓z_mn'_int, ↓z_nmC_nil, and_self, ↓z_new, ↓z_nm_nil, Nat.reduceLT, ↓z_pg_env, ↓z_mn_agg, ↓z_mn_int, ↓z_pg_env0, ↓z_put, ↓z_assign, ↓evW_const, ↓constW_int, inR_i64, Int.reduceNeg, Int.reduceLE, ↓z_ops_nil, ↓z_seq_nrm, ↓z_load, ↓lkW_cons, Nat.reduceEqDiff, ↓y_ty25, ↓y_sz25, ↓z_agTy_st, ↓loadW_ptr, ↓lkoW_cons, ↓z_rd_t, ↓z_sub_c, ↓z_sub_nil, ↓z_callv, ↓evW_func, ↓z_evL_cons, ↓z_evL_nil, ↓z_fun0, ↓z_coeL_cons, ↓z_coe_oag, ↓z_coeC_cons, ↓z_coeS_sl, ↓z_coeS_int, ↓z_coeC_nil, ↓z_coeL_nil, true_and])
  intro hd _ _
  refine call_fn (fn_refCheck G d r h o) fun _ => ?_
  (simp -dsimp only [↓z_put, Nat.reduceLT, ↓z_ops_plain, ↓z_binOp, ↓evW_tmp, ↓lkW_cons, ↓reduceIte, ↓evW_const, ↓constW_int, inR_i64, Int.reduceNeg, Int.reduceLE, and_self, ↓z_bn_neq, ↓z_move, ↓z_ops_guard, ↓z_grd, ↓z_dst_s, ↓z_dst_0, ↓z_grdD_b, ↓z_gdf, ne_eq, Nat.reduceEqDiff, ↓z_gnf, ↓z_gft, ↓z_pick, ↓z_pick_b, ↓z_gnt, ↓z_gff, ↓constW_bool, ↓z_gtf, ↓z_ops_nil, ↓z_seq_nrm, ↓z_cond, ↓z_cnd, ↓z_gtt, ↓z_seq, ↓z_region, ↓z_assign, ↓z_ret, ↓z_seq_rt, ↓z_end_rt, resLW, res1W, Bool.not_false, Nat.zero_add, Nat.reduceAdd, ↓z_coeL_cons, ↓z_coeL_nil, ↓z_pack1, ↓z_coe_int, D.int.injEq, true_and, reduceCtorEq, ↓z_bn_lss, ↓z_bn_gtr, ↓z_fieldAddr, ↓y_fl25x0, ↓y_sz22, not_false_eq_true, ↓z_fa_ptr, ↓z_load, ↓y_ty22, ↓z_agTy_sl, ↓loadW_ptr, ↓lkoW_cons, ↓z_rd_f, ↓nthW_cons, ↓z_callb, ↓z_evL_cons, ↓z_evL_nil, ↓z_len, ↓z_ln_sl, ↓z_bn_geq, ↓z_gdt, ↓z_skip, ↓z_indexAddr, ↓z_elTy_sl, ↓y_sz3, ↓z_ix_sl, ↓y_ty3, ↓z_agTy_int, ↓loadW_rop, ↓z_nth_int, ↓y_fl25x1, ↓y_sz23, ↓y_ty23, Nat.reduceSub, ↓y_sz56, Nat.mul_one, ↓y_fl56x0, ↓z_fa_rop, ↓z_block, ↓z_bn_eql, ↓z_blk_rt, ↓z_blk_nrm, ↓y_fl25x2, z_ite, nth_rk0, Classical.not_not]); (try simp only [Int.toNat_natCast, Nat.mul_one, Bool.or_false, Bool.false_or, Bool.or_self, Bool.or_true])
  unfold ofD
  refine ⟨fun g => by rw [if_pos (.inl g)], fun g => ⟨fun g1 => by rw [if_pos (.inr (.inl g1))], fun g1 => ⟨fun g2 => by rw [if_pos (.inr (.inr (.inl g2)))], fun g2 => ⟨fun g3 => by rw [if_pos (.inr (.inr (.inr (.inl g3))))], fun g3 => ⟨fun g4 => by rw [if_pos (.inr (.inr (.inr (.inr (by omega)))))], fun g4 => ?_⟩⟩⟩⟩⟩
  obtain ⟨c1, c2, c3, c4, c5, c6, c7, c8⟩ := chk_ok g
  have e1 : d.getD k.toNat 0 = d[k.toNat]'(by omega) := getD_at _
  have m1 := c6 _ (List.getElem_mem (show k.toNat < d.length by omega))
  have e2 : r.getD (d[k.toNat]'(by omega)).toNat (0, false) = r[(d[k.toNat]'(by omega)).toNat]'(by omega) := getD_at _
  have m2 := c7 _ (List.getElem_mem (show (d[k.toNat]'(by omega)).toNat < r.length by omega))
  have e3 : h.getD (r[(d[k.toNat]'(by omega)).toNat]'(by omega)).1.toNat 0 = h[(r[(d[k.toNat]'(by omega)).toNat]'(by omega)).1.toNat]'(by omega) := getD_at _
  rw [if_neg (by omega)]
  unfold upD
  rw [e1, e2, e3]
  refine ⟨by omega, by omega, by omega, m1.1, m1.2, by omega, fun g => by rw [if_pos g], fun g0 => ⟨fun g => by rw [if_neg g0, if_pos g], fun g1 => ⟨fun g => by rw [if_neg g0, if_neg g1, if_pos g], fun g2 => ⟨m2.1, m2.2, by omega, by rw [if_neg g0, if_neg g1, if_neg g2]⟩⟩⟩⟩
set_option maxRecDepth 100000 in
set_option maxHeartbeats 8000000 in
theorem fn_members (G : Glob) (d : List Int) (r : List (Int × Bool)) (h : List Int) (o lv k : Int) : Fn G Try.prog 30 [.agg [.sl 1 d.length (d.map (D.int .i64)), .sl 2 r.length (List.flatMap rkC r), .sl 1 h.length (h.map (D.int .i64)), .int .i64 o], .int .i64 lv, .int .i64 k]
    (.fn 39 [.rop [.sl 1 d.length (d.map (D.int .i64)), .sl 2 r.length (List.flatMap rkC r), .sl 1 h.length (h.map (D.int .i64)), .int .i64 o] 0, .rop [.int .i64 k] 0, .rop [.int .i64 lv] 0]) := by
  refine Fn.mk (c := _) Try.func30 rfl rfl Try.ntmps30 Try.results30 ?_
  (simp -dsimp only [bodyW, List.length_cons, List.length_nil, Nat.zero_add, Nat.reduceAdd, Nat.reduceLeDiff, wfL, ↓z_seq, ↓z_region, ↓z_ops_plain, ↓z_box, ↓evW_tmp, ↓z_lk_env, ↓reduceIte, ↓z_cl_agg, ↓z_nmC_cons, ↓z_mn'_sl, ↓z_mn'_int, ↓z_nmC_nil, and_self, ↓z_new, ↓z_nm_nil, Nat.reduceLT, ↓z_pg_env, ↓z_mn_agg, ↓z_mn_int, ↓z_pg_env0, ↓z_put, ↓lkW_cons, Nat.reduceEqDiff, reduceCtorEq, ↓z_cl_int, ↓z_nm_cons, ↓z_pg_cons, ↓z_mn_ptr, ↓z_pg_nil, ↓z_assign, ↓evW_const, ↓constW_nilFunc, ↓z_ops_nil, ↓z_seq_nrm, ↓z_makeFunc, ↓z_evL_cons, ↓z_evL_nil, ↓z_ret, ↓z_end_rt, resLW, res1W, ↓z_coeL_cons, ↓z_coeL_nil, ↓z_pack1, ↓z_coe_ofn, ↓z_coeC_cons, ↓z_coeS_ptr, ↓lkoW_cons, ↓z_allP_cons, ↓z_isP_sl, ↓z_isP_int, ↓z_allP_nil, ↓z_coeC_nil, true_and]); (try simp only [Int.toNat_natCast, Nat.mul_one, Bool.or_false, Bool.false_or, Bool.or_self, Bool.or_true])
  exact fun _ _ _ => trivial
/-- The disks in a domain. -/
def memN (d : List Int) (r : List (Int × Bool)) (h : List Int) (o lv k : Int) (n : Nat) : List Nat := (List.range n).filter fun i => decide (0 ≤ k ∧ ofD d r h o lv i = k)
def memD (d : List Int) (r : List (Int × Bool)) (h : List Int) (o lv k : Int) : List Nat := memN d r h o lv k d.length
theorem filt_s {p : Nat → Bool} (i : Nat) : (List.range (i + 1)).filter p = (List.range i).filter p ++ if p i = true then [i] else [] := by
  rw [List.range_succ, List.filter_append]; simp [List.filter_cons]
theorem filt_at {p : Nat → Bool} {i n : Nat} (hi : i < n) (hp : p i = true) : ((List.range n).filter p)[((List.range i).filter p).length]? = some i := by
  induction n with
  | zero => omega
  | succ n ih =>
    rw [filt_s]
    by_cases e : i = n
    · subst e; rw [if_pos hp]; simp
    · have := ih (by omega)
      rw [List.getElem?_append_left (List.getElem?_eq_some_iff.1 this).1]; exact this
theorem memN_s {d : List Int} {r : List (Int × Bool)} {h : List Int} {o lv k : Int} {i : Nat} : memN d r h o lv k (i + 1) = memN d r h o lv k i ++ if 0 ≤ k ∧ ofD d r h o lv i = k then [i] else [] := by
  unfold memN; rw [filt_s]; simp only [decide_eq_true_eq]
theorem memN_le {d : List Int} {r : List (Int × Bool)} {h : List Int} {o lv k : Int} {i : Nat} : (memN d r h o lv k i).length ≤ i := by
  have := List.length_filter_le (fun i : Nat => decide (0 ≤ k ∧ ofD d r h o lv i = k)) (List.range i)
  simpa [memN] using this
/-- .. as numbers. -/
def memZ (d : List Int) (r : List (Int × Bool)) (h : List Int) (o lv k : Int) : List Int := (memD d r h o lv k).map fun i : Nat => (i : Int)
theorem memN_64 {d : List Int} {r : List (Int × Bool)} {h : List Int} {o lv k : Int} {i : Nat} (hi : i ≤ d.length) : (memN d r h o lv k i).length ≤ 64 := by
  by_cases hc : chk d r h o = 0
  · exact Nat.le_trans (Nat.le_trans memN_le hi) (chk_ok hc).1
  · have : memN d r h o lv k i = [] := by
      unfold memN
      rw [List.filter_eq_nil_iff]
      intro j _ hj
      rw [decide_eq_true_eq] at hj
      have : ofD d r h o lv j = -1 := by unfold ofD; rw [if_pos (.inl hc)]
      omega
    rw [this]; simp
theorem memZ_64 {d : List Int} {r : List (Int × Bool)} {h : List Int} {o lv k : Int} : (memZ d r h o lv k).length ≤ 64 := by
  unfold memZ memD; rw [List.length_map]; exact memN_64 (Nat.le_refl _)
theorem memZ_len {d : List Int} {r : List (Int × Bool)} {h : List Int} {o lv k : Int} : (memZ d r h o lv k).length ≤ d.length := by
  unfold memZ; rw [List.length_map]; exact memN_le
set_option maxRecDepth 100000 in
set_option maxHeartbeats 8000000 in
theorem yd_members (G : Glob) (d : List Int) (r : List (Int × Bool)) (h : List Int) (o lv k : Int) :
    YieldsC G Try.prog 39 [.rop [.sl 1 d.length (d.map (D.int .i64)), .sl 2 r.length (List.flatMap rkC r), .sl 1 h.length (h.map (D.int .i64)), .int .i64 o] 0, .rop [.int .i64 k] 0, .rop [.int .i64 lv] 0] ((memZ d r h o lv k).map fun x => [.int .i64 x]) := by
  refine YieldsC.mk (c := _) Try.func39 rfl rfl Try.ntmps39 Try.results39 (by simp) fun l => ?_
  (simp -dsimp only [wfL, ↓z_y_seq, ↓z_y_region, ↓z_oy_plain, ↓z_yo_fieldAddr, ↓z_fieldAddr, ↓evW_tmp, ↓z_lk_env, reduceCtorEq, ↓reduceIte, Nat.zero_add, ↓y_fl25x0, ↓y_sz22, ne_eq, not_false_eq_true, ↓z_fa_rop, ↓z_put, Nat.reduceLT, ↓z_yo_load, ↓z_load, ↓lkW_cons, ↓y_ty22, ↓z_agTy_sl, ↓loadW_rop, ↓z_rd_f, ↓nthW_cons, ↓z_yo_callb, ↓z_callb, ↓z_evL_cons, ↓z_evL_nil, ↓z_len, ↓z_ln_sl, ↓z_yo_move, ↓z_move, ↓evW_const, ↓constW_int, inR_i64, Int.reduceNeg, Int.reduceLE, and_self, ↓z_oy_nil, ↓z_seq_nrm, ↓z_y_block, ↓z_y_loop, true_and]); (try simp only [Int.toNat_natCast, Nat.mul_one, Bool.or_false, Bool.false_or, Bool.or_self, Bool.or_true])
  intro hd _ _
  have hdl : d.length ≤ 9223372036854775807 := (hd.2 (.sl 1 d.length (d.map (D.int .i64))) (by simp)).1.1
  refine hold_intro ⟨[], Nat, fun i => ⟨29, 0, [(9, .int .i64 i), (8, .int .i64 d.length), (0, .yld l), (1, .rop [.sl 1 d.length (d.map (D.int .i64)), .sl 2 r.length (List.flatMap rkC r), .sl 1 h.length (h.map (D.int .i64)), .int .i64 o] 0), (2, .rop [.int .i64 k] 0), (3, .rop [.int .i64 lv] 0)], [(1000000, [.int .i64 (memN d r h o lv k i).length])]⟩, fun i => i ≤ d.length, fun i => d.length - i, ?_, ?_⟩
  · (simp -dsimp only [↓z_ad_nil, ↓z_wk, ↓z_wkE_cons, ↓lkW_cons, ↓reduceIte, D.int.injEq, true_and, Nat.reduceEqDiff, reduceCtorEq, ↓z_lk_env, Nat.zero_add, Nat.reduceAdd, ↓z_wkE_nil, and_self, and_true, ↓z_wkO_cons, ↓lkoW_cons, List.cons.injEq, ↓z_wkO_nil]); (try simp only [Int.toNat_natCast, Nat.mul_one, Bool.or_false, Bool.false_or, Bool.or_self, Bool.or_true])
    exact ⟨0, by simp [memN]⟩
  rintro i hi
  (simp -dsimp only [↓z_y_seq, ↓z_y_region, ↓z_oy_plain, ↓z_yo_binOp, ↓z_binOp, ↓evW_tmp, ↓lkW_cons, ↓reduceIte, Nat.reduceEqDiff, ↓z_bn_lss, ↓z_put, Nat.reduceLT, ↓z_oy_nil, ↓z_seq_nrm, ↓z_y_cond, ↓z_cnd, ↓z_gdt, ↓z_y_skip, ↓z_y_block, ↓z_yo_move, ↓z_move, ↓z_yo_assign, ↓z_assign, ↓z_y_region_d, ↓y_mix, true_and, ↓z_y_exit, ↓z_seq_ext, ↓z_lp_ext, ↓z_blk_ext, ↓z_end_nrm, List.length_map, ↓lkoW_cons, List.cons.injEq, D.int.injEq, and_true, z_ite]); (try simp only [Int.toNat_natCast, Nat.mul_one, Bool.or_false, Bool.false_or, Bool.or_self, Bool.or_true])
  refine ⟨fun hlt => rgny_m 13 (by decide +kernel) ?_, fun hge => ?_⟩
  · (simp -dsimp only [List.take_succ_cons, List.take_zero, List.drop_succ_cons, List.drop_zero, ↓z_y_cond, ↓z_y_ret, ↓z_blk_rt, ↓z_seq_rt, ↓z_lp_rt, ↓z_end_rt, List.length_map, ↓z_y_skip, ↓z_blk_nrm, ↓z_seq_nrm, ↓z_y_region, ↓z_oy_plain, ↓z_yo_binOp, ↓z_binOp, ↓evW_const, ↓constW_int, inR_i64, Int.reduceNeg, Int.reduceLE, and_self, ↓z_yo_move, ↓z_move, ↓z_oy_nil, ↓z_lp_nrm, true_and, ↓z_oy_guard, ↓z_yo_callv, ↓z_evL_cons, ↓z_evL_nil, ↓z_yo_unOp, ↓z_unOp, ↓z_yo_pick, ↓z_pick, ↓constW_bool, ↓z_drw_load, ↓z_drwS, ↓z_grd_none, ↓z_withE, ↓z_rd_tmp, ↓lkW_cons, Nat.reduceEqDiff, ↓reduceIte, reduceCtorEq, ↓z_rd_nil, ↓z_ap_cons, ↓z_ap_nil, ↓z_load, ↓evW_tmp, ↓y_ty3, ↓y_sz3, ↓z_agTy_int, ↓loadW_rop, ↓z_rd_f, ↓nthW_cons, and_true, ↓z_exD_all, ↓z_exD_eq, ↓z_put, Nat.reduceLT, ↓z_drwK, ↓z_drw_binOp, ↓z_rd_const, ↓z_bn_geq, ↓z_drw_move, ↓z_grd, ↓z_dst_s, ↓z_dst_0, ↓z_grdD_b, ↓z_gdt, ↓y_ty25, ↓y_sz25, ↓z_agTy_st, ↓z_rd_t, Nat.zero_add, List.length_cons, List.length_nil, Nat.reduceAdd, Nat.reduceLeDiff, ↓z_sub_c, ↓z_sub_nil, ↓z_gtt, ↓z_drw_callv, ↓z_rd_func, ↓z_gnt, ↓z_gtf, ↓z_drw_pick, ↓z_pick_b, Bool.not_true, ↓z_gft, ↓z_drw_nil, ↓z_cnd, ↓z_bn_add, ↓wrW_i64, ↓z_wk, ↓z_wkE_cons, D.int.injEq, ↓z_wkE_nil, ↓z_wkO_cons, ↓lkoW_cons, List.cons.injEq, ↓z_wkO_nil, z_ite]); (try simp only [Int.toNat_natCast, Nat.mul_one, Bool.or_false, Bool.false_or, Bool.or_self, Bool.or_true])
    refine ⟨fun g => ?_, fun g => ?_⟩
    · refine ex_mk (.int .i64 (ofD d r h o lv i)) (fun E => by
        (simp -dsimp only [↓z_ap_cons, ↓z_ap_nil, ↓z_callv, ↓evW_func, ↓z_evL_cons, ↓evW_tmp, ↓lkW_cons, ↓reduceIte, Nat.reduceEqDiff, ↓z_evL_nil, ↓z_fun0, ↓z_coeL_cons, ↓z_coe_agg, ↓z_coe_int, ↓z_coeL_nil]); (try simp only [Int.toNat_natCast, Nat.mul_one, Bool.or_false, Bool.false_or, Bool.or_self, Bool.or_true])
        exact call_fn (fn_Of G d r h o lv i) fun _ => ⟨rfl, rfl⟩) ?_
      (simp -dsimp only [↓z_put, Nat.reduceLT, ↓z_drwK, ↓z_drw_load, ↓z_drwS, ↓z_grd, ↓z_dst_s, ↓z_dst_0, ↓lkW_cons, Nat.reduceEqDiff, ↓reduceIte, ↓z_grdD_b, ↓z_gtt, ↓z_withE, ↓z_rd_tmp, reduceCtorEq, ↓z_rd_nil, ↓z_ap_cons, ↓z_ap_nil, ↓z_load, ↓evW_tmp, ↓y_ty3, ↓y_sz3, ↓z_agTy_int, ↓loadW_rop, ↓z_rd_f, ↓nthW_cons, and_true, ↓z_exD_all, ↓z_exD_eq, ↓z_drw_binOp, ↓z_binOp, ↓z_bn_eql, ↓z_drw_pick, ↓z_grd_none, ↓z_rd_const, ↓z_pick, ↓z_pick_b, ↓z_drw_move, ↓z_move, ↓z_gdt, ↓z_drw_nil, ↓z_cy_yld, true_and, ↓z_gnt, ↓z_gtf, ↓z_cnd, ↓z_gft, ↓z_bn_add, ↓wrW_i64, inR_i64, Int.reduceNeg, ↓z_wk, ↓z_wkE_cons, D.int.injEq, ↓z_wkE_nil, and_self, ↓z_wkO_cons, ↓lkoW_cons, List.cons.injEq, ↓z_wkO_nil, z_ite]); (try simp only [Int.toNat_natCast, Nat.mul_one, Bool.or_false, Bool.false_or, Bool.or_self, Bool.or_true])
      refine ⟨fun g2 => ?_, fun g2 => ?_⟩
      · refine yld_mk (memN d r h o lv k i).length [(9, .int .i64 i), (8, .int .i64 d.length), (22, .bool true), (0, .yld l), (1, .rop [.sl 1 d.length (d.map (D.int .i64)), .sl 2 r.length (List.flatMap rkC r), .sl 1 h.length (h.map (D.int .i64)), .int .i64 o] 0), (2, .rop [.int .i64 k] 0), (3, .rop [.int .i64 lv] 0)] (by simp [flA, flS]) (by (simp -dsimp only [↓lkoW_cons, ↓reduceIte]); (try simp only [Int.toNat_natCast, Nat.mul_one, Bool.or_false, Bool.false_or, Bool.or_self, Bool.or_true])) ?_ (by have := memN_le (d := d) (r := r) (h := h) (o := o) (lv := lv) (k := k) (i := i); omega) ?_
        · rw [memZ, List.getElem?_map, List.getElem?_map, show (memD d r h o lv k)[(memN d r h o lv k i).length]? = some i from filt_at (by omega) (decide_eq_true ⟨g, g2⟩)]; rfl
        (simp -dsimp only [↓z_wkE_cons, ↓lkW_cons, Nat.reduceEqDiff, ↓reduceIte, reduceCtorEq, ↓z_wkE_nil, and_self, ↓z_put, Nat.reduceLT, ↓z_grd, ↓z_dst_s, ↓z_dst_0, ↓z_grdD_b, ↓z_gtt, ↓evW_tmp, ↓z_un_not, ↓z_pick_b, ↓z_cnd, ↓z_gnt, ↓z_gtf, ↓z_bn_add, ↓wrW_i64, inR_i64, Int.reduceNeg, ↓z_wk, D.int.injEq, true_and, and_true, ↓z_wkO_cons, ↓lkoW_cons, List.cons.injEq, ↓z_wkO_nil]); (try simp only [Int.toNat_natCast, Nat.mul_one, Bool.or_false, Bool.false_or, Bool.or_self, Bool.or_true])
        exact ⟨by omega, i + 1, by omega, by omega, by omega, by rw [memN_s, if_pos ⟨g, g2⟩]; simp⟩
      · exact ⟨by omega, i + 1, by omega, by omega, by omega, by rw [memN_s, if_neg (fun h => g2 h.2)]; simp⟩
    · exact ⟨by omega, i + 1, by omega, by omega, by omega, by rw [memN_s, if_neg (fun h => g h.1)]; simp⟩
  · have e : i = d.length := by omega
    rw [e]; unfold memZ memD; simp
def memI (m : List Int) : Nat → St
  | 0 => ⟨19, 2, [], [(1000001, [.ptr 1 0]), (1, [.nils])]⟩
  | i + 1 => ⟨19, 3, [], [(1000001, [.ptr 1 0]), (1, [.osl 2 1 (i + 1)]), (2, (m.take (i + 1)).map (D.int .i64))]⟩
theorem memI0 {m : List Int} : memI m 0 = ⟨19, 2, [], [(1000001, [.ptr 1 0]), (1, [.nils])]⟩ := rfl
theorem memIs {m : List Int} {i : Nat} : memI m (i + 1) = ⟨19, 3, [], [(1000001, [.ptr 1 0]), (1, [.osl 2 1 (i + 1)]), (2, (m.take (i + 1)).map (D.int .i64))]⟩ := rfl
theorem takeS {α : Type} {l : List α} {i : Nat} (h : i < l.length) : l.take (i + 1) = l.take i ++ [l[i]] := by simp
set_option maxRecDepth 100000 in
set_option maxHeartbeats 8000000 in
theorem fn_Members (G : Glob) (d : List Int) (r : List (Int × Bool)) (h : List Int) (o lv k : Int) : FnF G Try.prog 14 [.agg [.sl 1 d.length (d.map (D.int .i64)), .sl 2 r.length (List.flatMap rkC r), .sl 1 h.length (h.map (D.int .i64)), .int .i64 o], .int .i64 lv, .int .i64 k]
    (.sl 1 (memZ d r h o lv k).length ((memZ d r h o lv k).map (D.int .i64))) := by
  have hm := memZ_64 (d := d) (r := r) (h := h) (o := o) (lv := lv) (k := k)
  have hY := yd_members G d r h o lv k
  generalize memZ d r h o lv k = m at hm hY
  refine FnF.outW (d' := if m.length = 0 then .nils else .sl 1 m.length (m.map (D.int .i64))) ?_ ?_
  rotate_left 1
  · split
    · rename_i e
      rw [List.eq_nil_of_length_eq_zero e]; exact .nils 1
    · exact .refl _
  refine FnF.mkR (c := _) Try.func14 rfl rfl Try.ntmps14 Try.results14 rfl ?_
  (simp -dsimp only [↓z_bodyR, List.length_cons, List.length_nil, Nat.zero_add, Nat.reduceAdd, Nat.reduceLeDiff, wfL, ↓z_r_seq, ↓z_r_region, ↓z_ops_plain, ↓z_box, ↓evW_tmp, ↓z_lk_env, ↓reduceIte, ↓z_cl_agg, ↓z_nmC_cons, ↓z_mn'_sl, ↓z_mn'_int, ↓z_nmC_nil, and_self, ↓z_new, ↓z_nm_nil, Nat.reduceLT, ↓z_pg_env, ↓z_mn_agg, ↓z_mn_int, ↓z_pg_env0, ↓z_put, ↓z_assign, ↓evW_const, ↓constW_nils, ↓z_ops_nil, ↓z_seq_nrm, ↓z_alloc, ↓y_zr22, ↓z_nm_cons, ↓z_pg_cons, ↓z_mn_nils, ↓z_mn_ptr, reduceCtorEq, ↓z_pg_nil, ↓z_load, ↓lkW_cons, Nat.reduceEqDiff, ↓y_ty25, ↓y_sz25, ↓z_agTy_st, ↓loadW_ptr, ↓lkoW_cons, ↓z_rd_t, ↓z_sub_c, ↓z_sub_nil, ↓z_move, ↓z_callv, ↓evW_func, ↓z_evL_cons, ↓z_evL_nil, ↓z_fun0, ↓z_coeL_cons, ↓z_coe_oag, ↓z_coeC_cons, ↓z_coeS_sl, ↓z_coeS_int, ↓z_coeC_nil, ↓z_coe_int, ↓z_coeL_nil, true_and])
  intro hd _ _
  have hdl : d.length ≤ 9223372036854775807 := (hd.2 (.sl 1 d.length (d.map (D.int .i64))) (by simp)).1.1
  refine call_fn (fn_members G d r h o lv k) fun _ => ?_
  (simp -dsimp only [↓z_put, Nat.reduceLT, ↓z_ops_nil, ↓z_seq_nrm, ↓z_r_block, ↓z_r_rng, ↓evW_tmp, ↓lkW_cons, ↓reduceIte, true_and])
  refine rng_mk _ [(7, .ptr 1 0)] (memI m) hY (by simp) (by simp) ?_ ?_ ?_
  · rw [memI0]
    (simp -dsimp only [↓z_wkE_cons, ↓lkW_cons, Nat.reduceEqDiff, ↓reduceIte, Nat.zero_add, ↓z_wkE_nil, and_self, ↓z_noO_cons, not_false_eq_true, reduceCtorEq, ↓z_noO_nil, ↓z_snd_cons, ↓z_snd_nil, ↓z_wkO_cons, ↓lkoW_cons, ↓z_wkO_nil]); (try simp only [Int.toNat_natCast, Nat.mul_one, Bool.or_false, Bool.false_or, Bool.or_self, Bool.or_true])
  · intro i ds hi
    rw [List.getElem?_map] at hi
    obtain ⟨x, hx, rfl⟩ := Option.map_eq_some_iff.1 hi
    obtain ⟨hi, rfl⟩ := List.getElem?_eq_some_iff.1 hx
    cases i with
    | zero =>
      rw [memI0, memIs]
      (simp -dsimp only [wfL, ↓z_region, ↓z_ops_plain, ↓z_assign, ↓evW_tmp, ↓z_par_cons, ↓z_par_nil, ↓z_put, Nat.reduceLT, ↓z_ops_nil, ↓z_onlyN, ↓z_block, ↓z_load, ↓lkW_cons, Nat.reduceEqDiff, ↓reduceIte, ↓y_ty22, ↓y_sz22, ↓z_agTy_sl, ↓z_move, ↓z_buildSlice, ↓z_slTy, ↓y_sz3, Nat.mul_one, Nat.reduceLeDiff, maxLen_lit, ↓y_zr3, List.length_cons, List.length_nil, Nat.zero_add, ↓z_repL_s, ↓z_repL_0, ↓z_cat_nil_r, ↓z_bld_cons, ↓spsW_cons, ↓drW_cons, reduceCtorEq, ↓drW_nil, ↓z_bld_nil, ↓z_callb, ↓z_evL_cons, ↓z_evL_nil, ↓z_append, ↓z_nint_sl, ↓y_by3, ↓z_src_slx, ↓z_store, ↓z_put_none, ↓z_blk_nrm, ↓z_wkO_cons, ↓z_wkO_nil, and_true, true_and, ↓z_cl_int, ↓z_allP_cons, ↓z_isP_int, ↓z_allP_nil, and_self, ↓lkoW_cons, ↓z_zp_cons, ↓z_zp_nil, ↓loadW_ptr, ↓z_rd_f, ↓nthW_cons, ↓z_app_nils, ↓z_room, Nat.reduceMul, ↓z_new, ↓z_nm_cons, ↓z_nmC_cons, ↓z_mn'_ptr, not_false_eq_true, ↓z_nmC_nil, ↓z_mn'_nils, ↓z_nm_nil, ↓z_pg_cons, ↓z_mn_slx, ↓z_mn_int, ↓z_mn_nils, ↓z_mn_ptr, ↓z_pg_nil, ↓z_cl_osl, ↓z_store_ptr, ↓z_so_cons]); (try simp only [Int.toNat_natCast, Nat.mul_one, Bool.or_false, Bool.false_or, Bool.or_self, Bool.or_true])
      intro _
      cases m with
      | nil => simp at hi
      | cons x m => simp
    | succ i =>
      rw [memIs, memIs]
      (simp -dsimp only [wfL, ↓z_region, ↓z_ops_plain, ↓z_assign, ↓evW_tmp, ↓z_par_cons, ↓z_par_nil, ↓z_put, Nat.reduceLT, ↓z_ops_nil, ↓z_onlyN, ↓z_block, ↓z_load, ↓lkW_cons, Nat.reduceEqDiff, ↓reduceIte, ↓y_ty22, ↓y_sz22, ↓z_agTy_sl, ↓z_move, ↓z_buildSlice, ↓z_slTy, ↓y_sz3, Nat.mul_one, Nat.reduceLeDiff, maxLen_lit, ↓y_zr3, List.length_cons, List.length_nil, Nat.zero_add, ↓z_repL_s, ↓z_repL_0, ↓z_cat_nil_r, ↓z_bld_cons, ↓spsW_cons, ↓drW_cons, reduceCtorEq, ↓drW_nil, ↓z_bld_nil, ↓z_callb, ↓z_evL_cons, ↓z_evL_nil, ↓z_append, ↓z_nint_sl, ↓y_by3, ↓z_src_slx, ↓z_store, ↓z_put_none, ↓z_blk_nrm, ↓z_wkO_cons, ↓z_wkO_nil, and_true, true_and, ↓z_cl_int, ↓z_allP_cons, ↓z_isP_int, ↓z_allP_nil, and_self, ↓lkoW_cons, ↓z_zp_cons, ↓z_zp_nil, ↓loadW_ptr, ↓z_rd_f, ↓nthW_cons, ↓z_app_osl, List.length_map, List.length_take, ↓z_nmC_int, ↓z_room, ↓z_pgo_cons, ↓z_nmC_cons, ↓z_mn'_ptr, not_false_eq_true, ↓z_nmC_nil, ↓z_pgc_nm, ↓z_pgc_cons, ↓z_mn_osl, ↓z_pgo_nil, ↓z_pg_cons, ↓z_mn_slx, ↓z_mn_int, ↓z_mn_ptr, ↓z_pg_nil, ↓z_so_cons, ↓z_cl_osl, ↓z_store_ptr]); (try simp only [Int.toNat_natCast, Nat.mul_one, Bool.or_false, Bool.false_or, Bool.or_self, Bool.or_true])
      intro _
      exact ⟨by omega, by omega, by omega, by rw [takeS (show i + 1 < m.length by assumption), List.map_append]; rfl⟩
  · rw [List.length_map]
    cases e : m.length with
    | zero =>
      rw [memI0]
      (simp -dsimp only [↓z_blk_nrm, ↓z_seq_nrm, ↓z_r_seq, ↓z_r_region, ↓z_ops_plain, ↓z_load, ↓evW_tmp, ↓y_ty22, ↓y_sz22, ↓z_agTy_sl, ↓z_put, Nat.reduceLT, ↓z_assign, ↓lkW_cons, ↓reduceIte, ↓z_ops_nil, ↓z_r_ret, ↓z_end_rt, resLW, res1W, ↓z_frL_cons, ↓z_frL_nil, and_true, ↓z_coeL_cons, ↓z_coeL_nil, ↓z_pack1, true_and, ↓z_dro_cons, Nat.reduceEqDiff, ↓z_dro_nil, ↓lkoW_cons, ↓z_zp_cons, ↓z_zp_nil, ↓loadW_ptr, ↓z_rd_f, ↓nthW_cons, ↓z_fr_nils, ↓z_coe_nils, and_self]); (try simp only [Int.toNat_natCast, Nat.mul_one, Bool.or_false, Bool.false_or, Bool.or_self, Bool.or_true])
    | succ n =>
      rw [memIs]
      (simp -dsimp only [↓z_blk_nrm, ↓z_seq_nrm, ↓z_r_seq, ↓z_r_region, ↓z_ops_plain, ↓z_load, ↓evW_tmp, ↓y_ty22, ↓y_sz22, ↓z_agTy_sl, ↓z_put, Nat.reduceLT, ↓z_assign, ↓lkW_cons, ↓reduceIte, ↓z_ops_nil, ↓z_r_ret, ↓z_end_rt, resLW, res1W, ↓z_frL_cons, ↓z_frL_nil, and_true, ↓z_coeL_cons, ↓z_coeL_nil, ↓z_pack1, reduceCtorEq, true_and, ↓z_dro_cons, Nat.reduceEqDiff, ↓z_dro_nil, ↓lkoW_cons, ↓z_zp_cons, ↓z_zp_nil, ↓loadW_ptr, ↓z_rd_f, ↓nthW_cons, ↓z_fr_osl, ↓z_frC_ints, ↓z_coe_osl, ↓z_allP_int, List.length_map, List.length_take, Nat.mul_one, D.sl.injEq]); (try simp only [Int.toNat_natCast, Nat.mul_one, Bool.or_false, Bool.false_or, Bool.or_self, Bool.or_true])
      exact ⟨by omega, by rw [List.take_of_length_le (by omega)]⟩
set_option maxRecDepth 100000 in
set_option maxHeartbeats 8000000 in
theorem fn_refMembers (G : Glob) (d : List Int) (r : List (Int × Bool)) (h : List Int) (o lv k : Int) : FnF G Try.prog 15 [.agg [.sl 1 d.length (d.map (D.int .i64)), .sl 2 r.length (List.flatMap rkC r), .sl 1 h.length (h.map (D.int .i64)), .int .i64 o], .int .i64 lv, .int .i64 k]
    (.sl 1 (memZ d r h o lv k).length ((memZ d r h o lv k).map (D.int .i64))) := by
  refine FnF.mk (c := _) Try.func15 rfl rfl Try.ntmps15 Try.results15 ?_
  (simp -dsimp only [bodyW, List.length_cons, List.length_nil, Nat.zero_add, Nat.reduceAdd, Nat.reduceLeDiff, wfL, ↓z_seq, ↓z_region, ↓z_ops_plain, ↓z_box, ↓evW_tmp, ↓z_lk_env, ↓reduceIte, ↓z_cl_agg, ↓z_nmC_cons, ↓z_mn'_sl, ↓z_mn'_int, ↓z_nmC_nil, and_self, ↓z_new, ↓z_nm_nil, Nat.reduceLT, ↓z_pg_env, ↓z_mn_agg, ↓z_mn_int, ↓z_pg_env0, ↓z_put, ↓z_assign, ↓evW_const, ↓constW_nils, ↓z_ops_nil, ↓z_seq_nrm, ↓constW_int, inR_i64, Int.reduceNeg, Int.reduceLE, ↓z_block, ↓z_loop, true_and])
  intro hd _ _
  have hdl : d.length ≤ 9223372036854775807 := (hd.2 (.sl 1 d.length (d.map (D.int .i64))) (by simp)).1.1
  refine hold_intro ⟨[(7, 1)], Nat, fun i => ⟨31, 2, [(8, .int .i64 i), (7, .osl 1 1 (memN d r h o lv k i).length), (3, .ptr 0 0), (1, .int .i64 lv), (2, .int .i64 k)], [(1, ((memN d r h o lv k i).map fun i : Nat => (i : Int)).map (D.int .i64)), (0, [.sl 1 d.length (d.map (D.int .i64)), .sl 2 r.length (List.flatMap rkC r), .sl 1 h.length (h.map (D.int .i64)), .int .i64 o])]⟩, fun i => i ≤ d.length ∧ (0 ≤ k ∨ i = 0), fun i => d.length - i, ?_, ?_⟩
  · (simp -dsimp only [↓z_ad_cons, Nat.reduceLT, ↓lkW_cons, Nat.reduceEqDiff, ↓reduceIte, ↓z_nm_cons, ↓z_nmC_cons, ↓z_mn'_sl, ↓z_mn'_int, ↓z_nmC_nil, and_self, ↓z_nm_nil, Nat.zero_add, ↓z_pg_cons, ↓z_mn_int, ↓z_mn_nils, ↓z_mn_ptr, reduceCtorEq, ↓z_mn_agg, ↓z_pg_nil, ↓z_ad_nil, ↓z_wk, ↓z_wkE_cons, D.int.injEq, true_and, D.osl.injEq, Nat.reduceAdd, ↓z_wkE_nil, and_true, ↓z_wkO_cons, ↓lkoW_cons, ↓z_wkO_nil]); (try simp only [Int.toNat_natCast, Nat.mul_one, Bool.or_false, Bool.false_or, Bool.or_self, Bool.or_true])
    exact ⟨0, by simp, by simp [memN]⟩
  rintro i ⟨hi, hk⟩
  (simp -dsimp only [↓z_seq, ↓z_region, ↓z_ops_plain, ↓z_move, ↓evW_tmp, ↓lkW_cons, ↓reduceIte, ↓z_put, Nat.reduceLT, ↓z_fieldAddr, Nat.reduceEqDiff, ↓y_fl25x0, ↓y_sz22, ne_eq, reduceCtorEq, not_false_eq_true, ↓z_fa_ptr, ↓z_load, ↓y_ty22, ↓z_agTy_sl, ↓loadW_ptr, ↓lkoW_cons, ↓z_rd_f, ↓nthW_cons, Nat.zero_add, ↓z_callb, ↓z_evL_cons, ↓z_evL_nil, ↓z_len, ↓z_ln_sl, ↓z_binOp, ↓z_bn_lss, ↓z_ops_guard, ↓z_grd, ↓z_dst_s, ↓z_dst_0, ↓z_grdD_b, ↓z_gdt, ↓z_gtt, ↓evW_const, ↓constW_int, inR_i64, Int.reduceNeg, Int.reduceLE, and_self, ↓z_bn_geq, ↓z_pick, ↓z_pick_b, ↓z_ops_nil, ↓z_seq_nrm, ↓z_cond, ↓z_cnd, ↓z_skip, ↓z_block, ↓y_ty25, ↓y_sz25, ↓z_agTy_st, ↓z_rd_t, List.length_cons, List.length_nil, Nat.reduceAdd, Nat.reduceLeDiff, ↓z_sub_c, ↓z_sub_nil, ↓z_callv, ↓evW_func, ↓z_fun0, ↓z_coeL_cons, ↓z_coe_oag, ↓z_coeC_cons, ↓z_coeS_sl, ↓z_coeS_int, ↓z_coeC_nil, ↓z_coe_int, ↓z_coeL_nil, true_and, ↓z_exit, ↓z_seq_ext, ↓z_lp_ext, ↓z_blk_ext, ↓z_assign, ↓z_ret, ↓z_end_rt, resLW, res1W, ↓z_frL_cons, ↓z_frL_nil, and_true, ↓z_pack1, ↓z_fr_osl, ↓z_frC_ints, ↓z_coe_osl, ↓z_allP_int, List.length_map, Nat.mul_one, D.sl.injEq, z_ite, ↓z_gnt, ↓z_gtf, ↓constW_bool, ↓z_gft, Bool.not_true])
  refine ⟨fun hlt => ⟨fun g => ?_, fun g => ?_⟩, fun hge => ?_⟩
  · refine call_fn (fn_refOf G d r h o lv i) fun _ => ?_
    (simp -dsimp only [↓z_put, Nat.reduceLT, ↓z_ops_plain, ↓z_move, ↓evW_tmp, ↓lkW_cons, Nat.reduceEqDiff, ↓reduceIte, ↓z_binOp, ↓z_bn_eql, ↓z_ops_nil, ↓z_seq_nrm, ↓z_cond, ↓z_cnd, ↓z_gdt, ↓z_region, ↓z_buildSlice, ↓y_ty22, ↓z_slTy, ↓y_sz3, Nat.mul_one, Nat.reduceLeDiff, maxLen_lit, ↓y_zr3, List.length_cons, List.length_nil, Nat.zero_add, ↓z_repL_s, ↓z_repL_0, ↓z_cat_nil_r, ↓z_bld_cons, ↓z_cl_int, ↓spsW_cons, ↓drW_cons, reduceCtorEq, ↓drW_nil, ↓z_bld_nil, ↓z_allP_cons, ↓z_isP_int, ↓z_allP_nil, and_self, ↓z_callb, ↓z_evL_cons, ↓z_evL_nil, ↓z_append, ↓z_nint_sl, ↓y_by3, ↓z_src_slx, ↓z_app_osl, ↓lkoW_cons, List.length_map, ↓z_nmC_int, ↓z_room, ↓z_pgo_cons, ↓z_pgc_nm, ↓z_nmC_cons, ↓z_mn'_sl, ↓z_mn'_int, ↓z_nmC_nil, ↓z_pgo_nil, ↓z_pg_cons, ↓z_mn_slx, ↓z_mn_int, ↓z_mn_osl, ↓z_mn_bool, ↓z_mn_oag, ↓z_mnL_sl, ↓z_mnL_int, ↓z_mnL_nil, ↓z_mn_sl, ↓z_mn_ptr, ↓z_pg_nil, ↓z_so_cons, ↓z_assign, ↓z_blk_nrm, ↓evW_const, ↓constW_int, inR_i64, Int.reduceNeg, Int.reduceLE, ↓z_bn_add, ↓wrW_i64, ↓z_lp_nrm, ↓z_wk, ↓z_wkE_cons, D.int.injEq, true_and, D.osl.injEq, ↓z_wkE_nil, and_true, ↓z_wkO_cons, ↓z_wkO_nil, ↓z_skip, z_ite]); (try simp only [Int.toNat_natCast, Nat.mul_one, Bool.or_false, Bool.false_or, Bool.or_self, Bool.or_true])
    have h64 := memN_64 (r := r) (h := h) (o := o) (lv := lv) (k := k) hi
    refine ⟨fun g2 => ⟨by omega, by omega, by omega, i + 1, by omega, by omega, ⟨by omega, ?_⟩, ?_⟩, fun g2 => ⟨by omega, i + 1, by omega, by omega, ⟨by omega, ?_⟩, ?_⟩⟩
    · rw [memN_s, if_pos ⟨g, g2⟩]; simp
    · rw [memN_s, if_pos ⟨g, g2⟩]; simp
    · rw [memN_s, if_neg (fun h => g2 h.2)]; simp
    · rw [memN_s, if_neg (fun h => g2 h.2)]; simp
  · have e0 : ∀ n, memN d r h o lv k n = [] := by
      intro n
      unfold memN
      rw [List.filter_eq_nil_iff]
      intro j _ hj
      rw [decide_eq_true_eq] at hj
      exact g hj.1
    unfold memZ memD
    rw [e0, e0]
    exact ⟨rfl, rfl⟩
  · have e : i = d.length := by omega
    subst e
    unfold memZ memD
    rw [List.length_map]
    exact ⟨rfl, rfl⟩
/-- The lowest level on which both are in one domain. -/
def relD (d : List Int) (r : List (Int × Bool)) (h : List Int) (o a b : Int) : Int :=
  if 0 ≤ ofD d r h o 0 a ∧ ofD d r h o 0 a = ofD d r h o 0 b then 0 else if 0 ≤ ofD d r h o 1 a ∧ ofD d r h o 1 a = ofD d r h o 1 b then 1 else
  if 0 ≤ ofD d r h o 2 a ∧ ofD d r h o 2 a = ofD d r h o 2 b then 2 else if 0 ≤ ofD d r h o 3 a ∧ ofD d r h o 3 a = ofD d r h o 3 b then 3 else 4
def relP (d : List Int) (r : List (Int × Bool)) (h : List Int) (o a b : Int) (i : Nat) : Prop := 0 ≤ ofD d r h o i a ∧ ofD d r h o i a = ofD d r h o i b
theorem relD_at {d : List Int} {r : List (Int × Bool)} {h : List Int} {o a b : Int} {i : Nat} (hi : i < 4) (h1 : ∀ j, j < i → ¬ relP d r h o a b j) (h2 : relP d r h o a b i) : relD d r h o a b = i := by
  unfold relP at h1 h2
  unfold relD
  match i, hi with
  | 0, _ => exact if_pos (by simpa using h2)
  | 1, _ => rw [if_neg (by simpa using h1 0 (by omega)), if_pos (by simpa using h2)]; rfl
  | 2, _ => rw [if_neg (by simpa using h1 0 (by omega)), if_neg (by simpa using h1 1 (by omega)), if_pos (by simpa using h2)]; rfl
  | 3, _ => rw [if_neg (by simpa using h1 0 (by omega)), if_neg (by simpa using h1 1 (by omega)), if_neg (by simpa using h1 2 (by omega)), if_pos (by simpa using h2)]; rfl
theorem relD_4 {d : List Int} {r : List (Int × Bool)} {h : List Int} {o a b : Int} (h1 : ∀ j, j < 4 → ¬ relP d r h o a b j) : relD d r h o a b = 4 := by
  unfold relP at h1
  unfold relD
  rw [if_neg (by simpa using h1 0 (by omega)), if_neg (by simpa using h1 1 (by omega)), if_neg (by simpa using h1 2 (by omega)), if_neg (by simpa using h1 3 (by omega))]
theorem all_lt {p : Nat → Prop} {i : Nat} (h1 : ∀ j, j < i → p j) (h2 : p i) : ∀ j, j < i + 1 → p j := fun j hj => by
  by_cases e : j = i
  · subst e; exact h2
  · exact h1 j (by omega)
set_option maxRecDepth 100000 in
set_option maxHeartbeats 8000000 in
theorem fn_Relate (G : Glob) (d : List Int) (r : List (Int × Bool)) (h : List Int) (o a b : Int) : Fn G Try.prog 18 [.agg [.sl 1 d.length (d.map (D.int .i64)), .sl 2 r.length (List.flatMap rkC r), .sl 1 h.length (h.map (D.int .i64)), .int .i64 o], .int .i64 a, .int .i64 b] (.int .i64 (relD d r h o a b)) := by
  refine Fn.mk (c := _) Try.func18 rfl rfl Try.ntmps18 Try.results18 ?_
  (simp -dsimp only [bodyW, List.length_cons, List.length_nil, Nat.zero_add, Nat.reduceAdd, Nat.reduceLeDiff, wfL, ↓z_seq, ↓z_region, ↓z_ops_plain, ↓z_box, ↓evW_tmp, ↓z_lk_env, ↓reduceIte, ↓z_cl_agg, ↓z_nmC_cons, ↓z_mn'_sl, ↓z_mn'_int, ↓z_nmC_nil, and_self, ↓z_new, ↓z_nm_nil, Nat.reduceLT, ↓z_pg_env, ↓z_mn_agg, ↓z_mn_int, ↓z_pg_env0, ↓z_put, ↓z_assign, ↓evW_const, ↓constW_int, inR_i64, Int.reduceNeg, Int.reduceLE, ↓z_ops_nil, ↓z_seq_nrm, ↓z_move, ↓z_block, ↓z_loop, true_and])
  intro hd _ _
  refine hold_intro ⟨[], Nat, fun i => ⟨28, 1, [(9, .int .i64 i), (3, .ptr 0 0), (1, .int .i64 a), (2, .int .i64 b)], [(0, [.sl 1 d.length (d.map (D.int .i64)), .sl 2 r.length (List.flatMap rkC r), .sl 1 h.length (h.map (D.int .i64)), .int .i64 o])]⟩, fun i => i ≤ 4 ∧ ∀ j, j < i → ¬ relP d r h o a b j, fun i => 4 - i, ?_, ?_⟩
  · (simp -dsimp only [↓z_ad_nil, ↓z_wk, ↓z_wkE_cons, ↓lkW_cons, ↓reduceIte, D.int.injEq, true_and, Nat.reduceEqDiff, reduceCtorEq, Nat.zero_add, Nat.reduceAdd, ↓z_wkE_nil, and_self, and_true, ↓z_wkO_cons, ↓lkoW_cons, ↓z_wkO_nil]); (try simp only [Int.toNat_natCast, Nat.mul_one, Bool.or_false, Bool.false_or, Bool.or_self, Bool.or_true])
    exact ⟨0, by simp⟩
  rintro i ⟨hi, ha⟩
  (simp -dsimp only [↓z_seq, ↓z_region, ↓z_ops_plain, ↓z_binOp, ↓evW_tmp, ↓lkW_cons, ↓reduceIte, ↓evW_const, ↓constW_int, inR_i64, Int.reduceNeg, Int.reduceLE, and_self, ↓z_bn_lss, ↓z_put, Nat.reduceLT, ↓z_ops_nil, ↓z_seq_nrm, ↓z_cond, ↓z_cnd, ↓z_gdt, ↓z_skip, ↓z_block, ↓z_move, Nat.reduceEqDiff, ↓z_assign, ↓z_load, ↓y_ty25, ↓y_sz25, ↓z_agTy_st, ↓loadW_ptr, ↓lkoW_cons, ↓z_rd_t, Nat.zero_add, List.length_cons, List.length_nil, Nat.reduceAdd, Nat.reduceLeDiff, ↓z_sub_c, ↓z_sub_nil, ↓z_callv, ↓evW_func, ↓z_evL_cons, ↓z_evL_nil, ↓z_fun0, ↓z_coeL_cons, ↓z_coe_oag, ↓z_coeC_cons, ↓z_coeS_sl, ↓z_coeS_int, ↓z_coeC_nil, ↓z_coe_int, ↓z_coeL_nil, true_and, ↓z_exit, ↓z_seq_ext, ↓z_lp_ext, ↓z_blk_ext, ↓z_ret, ↓z_end_rt, resLW, res1W, ↓z_pack1, D.int.injEq, z_ite])
  refine ⟨fun hlt => call_fn (fn_Of G d r h o i a) fun _ => ?_, fun hge => ?_⟩
  · (simp -dsimp only [↓z_put, Nat.reduceLT, ↓z_ops_plain, ↓z_assign, ↓evW_tmp, ↓lkW_cons, ↓reduceIte, ↓z_ops_nil, ↓z_seq_nrm, ↓z_seq, ↓z_region, ↓z_move, ↓z_binOp, ↓evW_const, ↓constW_int, inR_i64, Int.reduceNeg, Int.reduceLE, and_self, ↓z_bn_geq, ↓z_ops_guard, ↓z_grd, ↓z_dst_s, ↓z_dst_0, ↓z_grdD_b, ↓z_gdt, Nat.reduceEqDiff, ↓z_gtt, ↓z_load, ↓y_ty25, ↓y_sz25, ↓z_agTy_st, ↓loadW_ptr, ↓lkoW_cons, ↓z_rd_t, Nat.zero_add, List.length_cons, List.length_nil, Nat.reduceAdd, Nat.reduceLeDiff, ↓z_sub_c, ↓z_sub_nil, ↓z_callv, ↓evW_func, ↓z_evL_cons, ↓z_evL_nil, ↓z_fun0, ↓z_coeL_cons, ↓z_coe_oag, ↓z_coeC_cons, ↓z_coeS_sl, ↓z_coeS_int, ↓z_coeC_nil, ↓z_coe_int, ↓z_coeL_nil, true_and, ↓z_gnt, ↓z_gtf, ↓z_pick, ↓z_pick_b, ↓constW_bool, ↓z_cond, ↓z_cnd, ↓z_gft, ↓z_skip, ↓z_blk_nrm, ↓z_bn_add, ↓wrW_i64, ↓z_lp_nrm, ↓z_wk, ↓z_wkE_cons, D.int.injEq, ↓z_wkE_nil, and_true, ↓z_wkO_cons, ↓z_wkO_nil, z_ite])
    refine ⟨fun g => call_fn (fn_Of G d r h o i b) fun _ => ?_, fun g => ?_⟩
    · (simp -dsimp only [↓z_put, Nat.reduceLT, ↓z_ops_guard, ↓z_grd, ↓z_dst_s, ↓z_dst_0, ↓lkW_cons, Nat.reduceEqDiff, ↓reduceIte, ↓z_grdD_b, ↓z_gtt, ↓z_binOp, ↓evW_tmp, ↓z_bn_eql, ↓z_ops_plain, ↓z_pick, ↓z_pick_b, ↓z_ops_nil, ↓z_seq_nrm, ↓z_cond, ↓z_cnd, ↓z_gdt, ↓z_seq, ↓z_region, ↓z_move, ↓z_assign, ↓z_ret, ↓z_blk_rt, ↓z_seq_rt, ↓z_lp_rt, ↓z_end_rt, resLW, res1W, ↓z_coeL_cons, ↓z_coeL_nil, ↓z_pack1, ↓z_coe_int, D.int.injEq, true_and, ↓z_skip, ↓z_blk_nrm, ↓evW_const, ↓constW_int, inR_i64, Int.reduceNeg, Int.reduceLE, and_self, ↓z_bn_add, ↓wrW_i64, ↓z_lp_nrm, ↓z_wk, ↓z_wkE_cons, ↓z_wkE_nil, and_true, ↓z_wkO_cons, ↓lkoW_cons, ↓z_wkO_nil, z_ite]); (try simp only [Int.toNat_natCast, Nat.mul_one, Bool.or_false, Bool.false_or, Bool.or_self, Bool.or_true])
      refine ⟨fun g2 => (relD_at (by omega) ha ⟨g, g2⟩).symm, fun g2 => ⟨by omega, i + 1, ⟨by omega, all_lt ha fun hp => g2 hp.2⟩, by omega, by omega⟩⟩
    · exact ⟨by omega, i + 1, ⟨by omega, all_lt ha fun hp => g hp.1⟩, by omega, by omega⟩
  · exact (relD_4 fun j hj => ha j (by omega)).symm
set_option maxRecDepth 100000 in
set_option maxHeartbeats 8000000 in
theorem fn_refRelate (G : Glob) (d : List Int) (r : List (Int × Bool)) (h : List Int) (o a b : Int) : Fn G Try.prog 19 [.agg [.sl 1 d.length (d.map (D.int .i64)), .sl 2 r.length (List.flatMap rkC r), .sl 1 h.length (h.map (D.int .i64)), .int .i64 o], .int .i64 a, .int .i64 b] (.int .i64 (relD d r h o a b)) := by
  refine Fn.mk (c := _) Try.func19 rfl rfl Try.ntmps19 Try.results19 ?_
  (simp -dsimp only [bodyW, List.length_cons, List.length_nil, Nat.zero_add, Nat.reduceAdd, Nat.reduceLeDiff, wfL, ↓z_seq, ↓z_region, ↓z_ops_plain, ↓z_box, ↓evW_tmp, ↓z_lk_env, ↓reduceIte, ↓z_cl_agg, ↓z_nmC_cons, ↓z_mn'_sl, ↓z_mn'_int, ↓z_nmC_nil, and_self, ↓z_new, ↓z_nm_nil, Nat.reduceLT, ↓z_pg_env, ↓z_mn_agg, ↓z_mn_int, ↓z_pg_env0, ↓z_put, ↓z_assign, ↓evW_const, ↓constW_int, inR_i64, Int.reduceNeg, Int.reduceLE, ↓z_ops_nil, ↓z_seq_nrm, ↓z_block, ↓z_loop, true_and])
  intro hd _ _
  refine hold_intro ⟨[], Nat, fun i => ⟨30, 1, [(7, .int .i64 i), (3, .ptr 0 0), (1, .int .i64 a), (2, .int .i64 b)], [(0, [.sl 1 d.length (d.map (D.int .i64)), .sl 2 r.length (List.flatMap rkC r), .sl 1 h.length (h.map (D.int .i64)), .int .i64 o])]⟩, fun i => i ≤ 4 ∧ ∀ j, j < i → ¬ relP d r h o a b j, fun i => 4 - i, ?_, ?_⟩
  · (simp -dsimp only [↓z_ad_nil, ↓z_wk, ↓z_wkE_cons, ↓lkW_cons, ↓reduceIte, D.int.injEq, true_and, Nat.reduceEqDiff, reduceCtorEq, Nat.zero_add, Nat.reduceAdd, ↓z_wkE_nil, and_self, and_true, ↓z_wkO_cons, ↓lkoW_cons, ↓z_wkO_nil]); (try simp only [Int.toNat_natCast, Nat.mul_one, Bool.or_false, Bool.false_or, Bool.or_self, Bool.or_true])
    exact ⟨0, by simp⟩
  rintro i ⟨hi, ha⟩
  (simp -dsimp only [↓z_seq, ↓z_region, ↓z_ops_plain, ↓z_move, ↓evW_tmp, ↓lkW_cons, ↓reduceIte, ↓z_put, Nat.reduceLT, ↓z_binOp, ↓evW_const, ↓constW_int, inR_i64, Int.reduceNeg, Int.reduceLE, and_self, ↓z_bn_lss, ↓z_ops_nil, ↓z_seq_nrm, ↓z_cond, ↓z_cnd, ↓z_gdt, ↓z_skip, ↓z_block, ↓z_load, Nat.reduceEqDiff, ↓y_ty25, ↓y_sz25, ↓z_agTy_st, ↓loadW_ptr, ↓lkoW_cons, ↓z_rd_t, Nat.zero_add, List.length_cons, List.length_nil, Nat.reduceAdd, Nat.reduceLeDiff, ↓z_sub_c, ↓z_sub_nil, ↓z_callv, ↓evW_func, ↓z_evL_cons, ↓z_evL_nil, ↓z_fun0, ↓z_coeL_cons, ↓z_coe_oag, ↓z_coeC_cons, ↓z_coeS_sl, ↓z_coeS_int, ↓z_coeC_nil, ↓z_coe_int, ↓z_coeL_nil, true_and, ↓z_exit, ↓z_seq_ext, ↓z_lp_ext, ↓z_blk_ext, ↓z_assign, ↓z_ret, ↓z_end_rt, resLW, res1W, ↓z_pack1, D.int.injEq, z_ite])
  refine ⟨fun hlt => call_fn (fn_refOf G d r h o i a) fun _ => ?_, fun hge => ?_⟩
  · (simp -dsimp only [↓z_put, Nat.reduceLT, ↓z_ops_plain, ↓z_assign, ↓evW_tmp, ↓lkW_cons, ↓reduceIte, ↓z_ops_nil, ↓z_seq_nrm, ↓z_seq, ↓z_region, ↓z_load, Nat.reduceEqDiff, ↓y_ty25, ↓y_sz25, ↓z_agTy_st, ↓loadW_ptr, ↓lkoW_cons, ↓z_rd_t, Nat.zero_add, List.length_cons, List.length_nil, Nat.reduceAdd, Nat.reduceLeDiff, ↓z_sub_c, ↓z_sub_nil, ↓z_move, ↓z_callv, ↓evW_func, ↓z_evL_cons, ↓z_evL_nil, ↓z_fun0, ↓z_coeL_cons, ↓z_coe_oag, ↓z_coeC_cons, ↓z_coeS_sl, ↓z_coeS_int, ↓z_coeC_nil, ↓z_coe_int, ↓z_coeL_nil, true_and])
    refine call_fn (fn_refOf G d r h o i b) fun _ => ?_
    (simp -dsimp only [↓z_put, Nat.reduceLT, ↓z_ops_plain, ↓z_assign, ↓evW_tmp, ↓lkW_cons, ↓reduceIte, ↓z_ops_nil, ↓z_seq_nrm, ↓z_seq, ↓z_region, ↓z_move, Nat.reduceEqDiff, ↓z_binOp, ↓evW_const, ↓constW_int, inR_i64, Int.reduceNeg, Int.reduceLE, and_self, ↓z_bn_geq, ↓z_ops_guard, ↓z_grd, ↓z_dst_s, ↓z_dst_0, ↓z_grdD_b, ↓z_gdt, ↓z_gtt, ↓z_bn_eql, ↓z_pick, ↓z_pick_b, ↓z_cond, ↓z_cnd, ↓z_ret, ↓z_blk_rt, ↓z_seq_rt, ↓z_lp_rt, ↓z_end_rt, resLW, res1W, ↓z_coeL_cons, ↓z_coeL_nil, ↓z_pack1, ↓z_coe_int, D.int.injEq, true_and, ↓z_skip, ↓z_blk_nrm, ↓z_bn_add, ↓wrW_i64, ↓z_lp_nrm, ↓z_wk, ↓z_wkE_cons, ↓z_wkE_nil, and_true, ↓z_wkO_cons, ↓lkoW_cons, ↓z_wkO_nil, z_ite, ↓z_gnt, ↓z_gtf, ↓constW_bool, ↓z_gft]); (try simp only [Int.toNat_natCast, Nat.mul_one, Bool.or_false, Bool.false_or, Bool.or_self, Bool.or_true])
    refine ⟨fun g => ⟨fun g2 => (relD_at (by omega) ha ⟨g, g2⟩).symm, fun g2 => ⟨by omega, i + 1, ⟨by omega, all_lt ha fun hp => g2 hp.2⟩, by omega, by omega⟩⟩, fun g => ?_⟩
    exact ⟨by omega, i + 1, ⟨by omega, all_lt ha fun hp => g hp.1⟩, by omega, by omega⟩
  · exact (relD_4 fun j hj => ha j (by omega)).symm
set_option maxRecDepth 100000 in
set_option maxHeartbeats 8000000 in
theorem fn_SameList (G : Glob) (x y : List Int) : Fn G Try.prog 13 [.sl 1 x.length (x.map (D.int .i64)), .sl 1 y.length (y.map (D.int .i64))] (.bool (decide (x = y))) := by
  refine Fn.mk (c := _) Try.func13 rfl rfl Try.ntmps13 Try.results13 ?_
  (simp -dsimp only [bodyW, List.length_cons, List.length_nil, Nat.zero_add, Nat.reduceAdd, Nat.reduceLeDiff, wfL, ↓z_seq, ↓z_region, ↓z_ops_plain, ↓z_assign, ↓evW_const, ↓constW_bool, ↓z_put, Nat.reduceLT, ↓z_ops_nil, ↓z_seq_nrm, ↓z_move, ↓evW_tmp, ↓lkW_cons, reduceCtorEq, ↓reduceIte, ↓z_lk_env, ↓z_callb, ↓z_evL_cons, ↓z_evL_nil, ↓z_len, ↓y_ty22, ↓z_ln_sl, Nat.reduceEqDiff, ↓z_binOp, ↓z_bn_neq, ↓z_cond, ↓z_cnd, ↓z_gdt, ne_eq, ↓z_ret, ↓z_seq_rt, ↓z_end_rt, resLW, res1W, ↓z_envF_cons, ↓z_envF_nil, ↓z_coeL_cons, ↓z_coeL_nil, ↓z_pack1, ↓z_coe_bool, D.bool.injEq, true_and, ↓z_skip, ↓constW_int, inR_i64, Int.reduceNeg, Int.reduceLE, and_self, ↓z_block, ↓z_loop, z_ite, Classical.not_not])
  intro hx hy
  have hb : x.length ≤ 9223372036854775807 := hx.1.1
  refine ⟨fun hl => (decide_eq_false fun e => hl (by rw [e])).symm, fun hl => hold_intro ⟨[], Nat, fun i => ⟨26, 0, [(5, .int .i64 i), (0, .sl 1 x.length (x.map (D.int .i64))), (1, .sl 1 y.length (y.map (D.int .i64)))], []⟩, fun i => i ≤ x.length ∧ x.take i = y.take i, fun i => x.length - i, ?_, ?_⟩⟩
  · (simp -dsimp only [↓z_ad_nil, ↓z_wk, ↓z_wkE_cons, ↓lkW_cons, ↓reduceIte, D.int.injEq, true_and, reduceCtorEq, ↓z_lk_env, Nat.reduceEqDiff, Nat.zero_add, ↓z_wkE_nil, and_self, and_true, ↓z_wkO_nil]); (try simp only [Int.toNat_natCast, Nat.mul_one, Bool.or_false, Bool.false_or, Bool.or_self, Bool.or_true])
    exact ⟨0, by simp⟩
  rintro i ⟨hi, he⟩
  (simp -dsimp only [↓z_seq, ↓z_region, ↓z_ops_plain, ↓z_move, ↓evW_tmp, ↓lkW_cons, ↓reduceIte, ↓z_put, Nat.reduceLT, reduceCtorEq, ↓z_callb, ↓z_evL_cons, ↓z_evL_nil, ↓z_len, ↓y_ty22, ↓z_ln_sl, ↓z_binOp, Nat.reduceEqDiff, ↓z_bn_lss, ↓z_ops_nil, ↓z_seq_nrm, ↓z_cond, ↓z_cnd, ↓z_gdt, ↓z_skip, ↓z_block, ↓z_region_d, ↓y_mix, true_and, ↓z_exit, ↓z_seq_ext, ↓z_lp_ext, ↓z_blk_ext, ↓z_assign, ↓evW_const, ↓constW_bool, ↓z_ret, ↓z_end_rt, resLW, res1W, ↓z_coeL_cons, ↓z_coeL_nil, ↓z_pack1, ↓z_coe_bool, D.bool.injEq, z_ite])
  refine ⟨fun h => rgn_q (by decide +kernel) rfl ?_, fun h => ?_⟩
  · (simp -dsimp only [↓z_ops_plain, ↓z_move, ↓evW_tmp, ↓lkW_cons, reduceCtorEq, ↓reduceIte, ↓z_put, Nat.reduceLT, Nat.reduceEqDiff, ↓z_indexAddr, ↓y_ty22, ↓z_elTy_sl, ↓y_sz3, ↓z_ix_sl, ↓z_load, ↓y_ty3, ↓z_agTy_int, ↓loadW_rop, ↓z_rd_f, ↓z_nth_int, ↓z_binOp, ↓z_bn_neq, ↓z_ops_nil, ↓z_seq_nrm, ↓z_cond, ↓z_cnd, ↓z_gdt, Nat.mul_one, ne_eq, ↓z_seq, ↓z_region, ↓z_assign, ↓evW_const, ↓constW_bool, ↓z_ret, ↓z_blk_rt, ↓z_seq_rt, ↓z_lp_rt, ↓z_end_rt, resLW, res1W, ↓z_coeL_cons, ↓z_coeL_nil, ↓z_pack1, ↓z_coe_bool, D.bool.injEq, true_and, ↓z_skip, ↓z_blk_nrm, ↓constW_int, inR_i64, Int.reduceNeg, Int.reduceLE, and_self, ↓z_bn_add, ↓wrW_i64, ↓z_lp_nrm, ↓z_wk, ↓z_wkE_cons, D.int.injEq, ↓z_wkE_nil, and_true, ↓z_wkO_nil, z_ite, Classical.not_not]); (try simp only [Int.toNat_natCast])
    refine ⟨by omega, by omega, by omega, by omega, by omega, by omega, fun hne => ?_, fun heq => ⟨by omega, i + 1, ⟨by omega, ?_⟩, by omega, by omega⟩⟩
    · exact (decide_eq_false fun e => hne (by subst e; rfl)).symm
    · rw [takeS (by omega), takeS (by omega), he, heq]
  · rw [List.take_of_length_le (by omega), List.take_of_length_le (by omega)] at he
    exact (decide_eq_true he).symm
end Go.Abs

