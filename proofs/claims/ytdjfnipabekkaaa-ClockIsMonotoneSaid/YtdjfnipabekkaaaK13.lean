/-
  CLOCK, thirteenth walks: the laws of a run.
-/
import Derived.Test.YtdjfnipabekkaaaK12
namespace Go.Abs
open Go.Proofs
theorem sp_len (ss : List Sp) : (List.flatMap spC ss).length = ss.length * 5 := by
  induction ss with
  | nil => rfl
  | cons x r ih => rw [List.flatMap_cons, List.length_append, ih, List.length_cons, Nat.add_mul]; simp [spC]; omega
theorem sp_at : ∀ {ss : List Sp} {j : Nat} (h : j < ss.length), ((List.flatMap spC ss).drop (j * 5)).take 5 = spC ss[j]
  | [], j, h => by simp at h
  | x :: r, 0, _ => by rw [List.flatMap_cons]; simp [spC]
  | x :: r, j + 1, h => by
    rw [List.flatMap_cons, show (j + 1) * 5 = (spC x).length + j * 5 by simp [spC]; omega, List.drop_append, List.drop_of_length_le (by omega), List.nil_append]
    rw [show (spC x).length + j * 5 - (spC x).length = j * 5 by omega, sp_at (by simpa using h)]; rfl
theorem cvi_i16 (x : Int) (kD : D → Prop) : cviW .i16 .i64 x kD = kD (.int .i64 x) := _root_.id rfl
/-- The state after some steps. -/
def goS (rate : Int) (m : Mo) (ss : List Sp) (i : Nat) : Mo := (ss.take i).foldl (goM rate) m
theorem goS_s {rate : Int} {m : Mo} {ss : List Sp} {i : Nat} (h : i < ss.length) : goS rate m ss (i + 1) = goM rate (goS rate m ss i) ss[i] := by
  unfold goS
  rw [List.take_add_one, List.getElem?_eq_getElem h, List.foldl_append]; rfl
theorem goS_P {rate : Int} {m : Mo} {ss : List Sp} (hm : MoP rate 0 m) (hs : ∀ s ∈ ss, spP s) (hl : ss.length ≤ 30) : ∀ i, i ≤ ss.length → MoP rate i (goS rate m ss i)
  | 0, _ => by simpa [goS] using hm
  | i + 1, h => by
    have := goS_P hm hs hl i (by omega)
    rw [goS_s (by omega)]
    exact (go_ok this (by omega) (by omega) (hs _ (List.getElem_mem _))).2.2.2.2.2.2.1
theorem begun_P {a b : Int} (ha : 0 ≤ a) (hb : 0 ≤ b) : MoP (a % 100001) 0 (0, b % 100000 * 1000000 / 7, []) := by
  refine ⟨chkC_of (by omega) (by omega) (by simp) (by simp) (by simp), by simp, by simp, ?_, ?_, by simp⟩
  · show 0 ≤ b % 100000 * 1000000 / 7; omega
  · show b % 100000 * 1000000 / 7 ≤ 15000000000 + 600000000 * 0; omega
set_option maxRecDepth 100000 in
set_option maxHeartbeats 16000000 in
theorem fn_LawT (G : Glob) (a b : Int) (ss : List Sp) (ha : 0 ≤ a) (hb : 0 ≤ b) (hb1 : b ≤ 4294967295) (hs : ∀ s ∈ ss, spP s) : Fn G Try.prog 7 [.agg [.int .u32 a, .int .u32 b, .sl 5 ss.length (List.flatMap spC ss)]] (.bool true) := by
  refine Fn.mk (c := _) Try.func7 rfl rfl Try.ntmps7 Try.results7 ?_
  (simp -dsimp only [bodyW, List.length_cons, List.length_nil, Nat.zero_add, Nat.reduceLeDiff, wfL, ↓z_seq, ↓z_region, ↓z_ops_plain, ↓z_box, ↓evW_tmp, ↓z_lk_env, ↓reduceIte, ↓z_cl_agg, ↓z_nmC_cons, ↓z_mn'_int, ↓z_mn'_sl, ↓z_nmC_nil, and_self, ↓z_new, ↓z_nm_nil, Nat.reduceLT, ↓z_pg_env, ↓z_mn_agg, ↓z_pg_env0, ↓z_put, ↓z_assign, ↓evW_const, ↓constW_bool, ↓z_ops_nil, ↓z_seq_nrm, ↓z_fieldAddr, ↓lkW_cons, Nat.reduceEqDiff, ↓y_fl73x2, ↓y_sz71, ne_eq, reduceCtorEq, not_false_eq_true, ↓z_fa_ptr, ↓z_load, ↓y_ty71, ↓z_agTy_sl, ↓loadW_ptr, ↓lkoW_cons, ↓z_rd_f, ↓nthW_cons, Nat.reduceSub, ↓z_callb, ↓z_evL_cons, ↓z_evL_nil, ↓z_len, ↓z_ln_sl, ↓z_binOp, ↓constW_int, inR_i64, Int.reduceNeg, Int.reduceLE, ↓z_bn_gtr, ↓z_cond, ↓z_cnd, ↓z_gdt, ↓z_callv, ↓evW_func, ↓z_fun0, ↓z_coeL_nil, ↓z_skip, ↓y_ty73, ↓y_sz73, ↓z_agTy_st, ↓z_rd_t, Nat.reduceAdd, ↓z_sub_c, ↓z_sub_nil, ↓z_coeL_cons, ↓z_coe_oag, ↓z_coeC_cons, ↓z_coeS_int, ↓z_coeS_sl, ↓z_coeC_nil, true_and, z_ite])
  intro hd
  refine ⟨fun g => call_fn (fn_sanity G) fun _ => by (simp -dsimp only [↓z_put, Nat.reduceLT, ↓z_ops_plain, ↓z_assign, ↓evW_tmp, ↓lkW_cons, ↓reduceIte, ↓z_ops_nil, ↓z_seq_nrm, ↓z_ret, ↓z_seq_rt, ↓z_end_rt, resLW, res1W, Nat.zero_add, ↓z_coeL_cons, ↓z_coeL_nil, ↓z_pack1, ↓z_coe_bool, and_self]); (try simp only [Int.toNat_natCast, Nat.mul_one, Bool.or_false, Bool.false_or, Bool.or_self, Bool.or_true]), fun g => ?_⟩
  have hB := fn_begun G a b ha hb hb1 (List.flatMap spC ss) ss.length
  have hP := begun_P ha hb
  generalize a % 100001 = rate at hB hP
  obtain ⟨m0, hm0⟩ : ∃ m : Mo, m = (0, b % 100000 * 1000000 / 7, []) := ⟨_, rfl⟩
  rw [← hm0] at hB hP
  have hP' := goS_P hP hs (by omega)
  unfold moA at hB
  refine call_fn hB fun _ => ?_
  (simp -dsimp only [↓z_put, Nat.reduceLT, ↓z_ops_plain, ↓z_alloc, ↓y_zr75, ↓z_new, ↓z_nm_cons, ↓z_nmC_cons, ↓z_mn'_int, ↓z_mn'_sl, ↓z_nmC_nil, and_self, ↓z_nm_nil, Nat.zero_add, ↓z_pg_cons, ↓z_mn_agg, ↓z_mn_oag, ↓z_mnL_int, ↓z_mnL_sl, ↓z_mnL_nil, ↓z_mn_bool, ↓z_mn_int, ↓z_mn_sl, ↓z_mn_ptr, reduceCtorEq, ↓reduceIte, ↓z_pg_nil, ↓z_store, ↓evW_tmp, ↓lkW_cons, Nat.reduceEqDiff, ↓y_sz75, ↓z_cl_agg, List.length_cons, List.length_nil, Nat.reduceAdd, ↓z_store_ptr, ↓lkoW_cons, Nat.reduceLeDiff, ↓spsW_cons, ↓drW_cons, Nat.reduceSub, ↓drW_nil, ↓z_cat_nil_r, ↓z_so_cons, ↓z_put_none, ↓z_ops_nil, ↓z_seq_nrm, ↓z_seq, ↓z_region, ↓z_fieldAddr, ↓y_fl73x2, ↓y_sz71, ne_eq, not_false_eq_true, ↓z_fa_ptr, ↓z_load, ↓y_ty71, ↓z_agTy_sl, ↓loadW_ptr, ↓z_rd_f, ↓nthW_cons, ↓z_callb, ↓z_evL_cons, ↓z_evL_nil, ↓z_len, ↓z_ln_sl, ↓z_move, ↓evW_const, ↓constW_int, inR_i64, Int.reduceNeg, Int.reduceLE, ↓z_block, ↓z_loop, true_and])
  refine hold_intro ⟨[], Nat, fun i => ⟨66, 2, [(20, .int .i64 i), (19, .int .i64 ss.length), (18, .sl 5 ss.length (List.flatMap spC ss)), (3, .ptr 1 0)], [(1, moA rate (goS rate m0 ss i)), (0, [.int .u32 a, .int .u32 b, .sl 5 ss.length (List.flatMap spC ss)])]⟩, fun i => i ≤ ss.length, fun i => ss.length - i, ?_, ?_⟩
  · (simp -dsimp only [↓z_ad_nil, ↓z_wk, ↓z_wkE_cons, ↓lkW_cons, ↓reduceIte, D.int.injEq, true_and, Nat.reduceEqDiff, Nat.zero_add, ↓z_wkE_nil, and_self, and_true, ↓z_wkO_cons, ↓lkoW_cons, reduceCtorEq, ↓z_wkO_nil]); (try simp only [Int.toNat_natCast, Nat.mul_one, Bool.or_false, Bool.false_or, Bool.or_self, Bool.or_true])
    exact ⟨0, by omega, rfl, rfl⟩
  rintro i hi
  have hm := hP' i hi
  have hl := sp_len ss
  generalize hM : goS rate m0 ss i = m at hm
  by_cases h : i < ss.length
  · have hop : ((List.flatMap spC ss).drop (i * 5)).take 5 = [.int .u16 ss[i].1, .int .i32 ss[i].2.1, .int .u8 ss[i].2.2.1, .int .u8 ss[i].2.2.2.1, .int .u8 ss[i].2.2.2.2] := sp_at h
    have hm' := hP' (i + 1) (by omega)
    rw [goS_s h, hM] at hm'
    have hs' := hs _ (List.getElem_mem h)
    have hG := fn_goOn G rate i m ss[i] hm (by omega) (by omega) hs'
    have hnx : goS rate m0 ss (i + 1) = goM rate m ss[i] := by rw [goS_s h, hM]
    generalize goM rate m ss[i] = m' at hm' hG hnx
    unfold moA at hG ⊢
    unfold spC at hG
    (simp -dsimp only [↓z_seq, ↓z_region, ↓z_ops_plain, ↓z_binOp, ↓evW_tmp, ↓lkW_cons, ↓reduceIte, Nat.reduceEqDiff, ↓z_bn_lss, ↓z_put, Nat.reduceLT, ↓z_ops_nil, ↓z_seq_nrm, ↓z_cond, ↓z_cnd, ↓z_gdt, ↓z_skip, ↓z_block, ↓z_indexAddr, ↓y_ty71, ↓z_elTy_sl, ↓y_sz78, ↓z_ix_sl, ↓z_load, ↓y_ty78, ↓z_agTy_st, ↓loadW_rop, ↓z_rd_t, ↓z_alloc, ↓y_zr78, ↓z_new, ↓z_nm_cons, ↓z_nmC_cons, ↓z_mn'_int, ↓z_mn'_sl, ↓z_nmC_nil, and_self, ↓z_nm_nil, ↓z_pg_cons, ↓z_mn_agg, ↓z_mn_rop, ↓z_mn_bool, ↓z_mn_int, ↓z_mn_sl, ↓z_mn_ptr, ↓z_pg_nil, ↓z_store, ↓z_cl_agg, ↓z_store_ptr, ↓lkoW_cons, Nat.zero_add, List.length_cons, List.length_nil, Nat.reduceAdd, Nat.reduceLeDiff, ↓spsW_cons, ↓drW_cons, reduceCtorEq, Nat.reduceSub, ↓drW_nil, ↓z_cat_nil_r, ↓z_so_cons, ↓z_put_none, ↓y_ty75, ↓y_sz75, ↓loadW_ptr, hM, ↓z_sub_c, ↓z_sub_nil, ↓z_callv, ↓evW_func, ↓z_evL_cons, ↓z_evL_nil, ↓z_fun0, ↓z_coeL_cons, ↓z_coe_oag, ↓z_coeC_cons, ↓z_coeS_int, ↓z_coeS_sl, ↓z_coeC_nil, ↓z_coeL_nil, true_and, z_sub, List.drop_zero, List.length_take, List.length_drop, ↓z_exit, ↓z_seq_ext, ↓z_lp_ext, ↓z_blk_ext, z_ite]); (try simp only [Int.toNat_natCast])
    refine ⟨fun _ => ⟨by omega, by omega, by rw [hl]; omega, ?_⟩, fun hn => absurd h (by omega)⟩
    rw [hM]
    simp only [hop, hl]
    (simp -dsimp only [List.take_succ_cons, List.take_zero, ↓z_coeC_cons, ↓z_coeS_int, ↓z_coeC_nil]); (try simp only [Int.toNat_natCast, Nat.mul_one, Bool.or_false, Bool.false_or, Bool.or_self, Bool.or_true])
    refine ⟨by omega, by omega, call_wk ⟨66, 2, [(20, .int .i64 i), (19, .int .i64 ss.length), (18, .sl 5 ss.length (List.flatMap spC ss)), (3, .ptr 1 0)], [(1, [.int .i64 m.1, .int .i64 m.2.1, .int .i64 rate, .sl 3 m.2.2.length (List.flatMap rdC m.2.2)]), (0, [.int .u32 a, .int .u32 b, .sl 5 ss.length (List.flatMap spC ss)])]⟩ (by (simp -dsimp only [↓z_wk, ↓z_wkE_cons, ↓lkW_cons, Nat.reduceEqDiff, ↓reduceIte, ↓z_wkE_nil, and_self, ↓z_wkO_cons, ↓lkoW_cons, reduceCtorEq, ↓z_wkO_nil]); (try simp only [Int.toNat_natCast, Nat.mul_one, Bool.or_false, Bool.false_or, Bool.or_self, Bool.or_true])) (call0_fn hG fun _ => ?_)⟩
    (simp -dsimp only [↓z_put, Nat.reduceLT, ↓z_ops_plain, ↓z_move, ↓evW_tmp, ↓lkW_cons, ↓reduceIte, ↓z_extract, ↓z_ex, ↓nthW_cons, Nat.reduceEqDiff, reduceCtorEq, Nat.reduceSub, ↓z_alloc, ↓y_zr75, ↓z_new, ↓z_nm_cons, ↓z_nmC_cons, ↓z_mn'_int, ↓z_mn'_sl, ↓z_nmC_nil, and_self, ↓z_nm_nil, ↓z_pg_cons, ↓z_mn_bool, ↓z_mn_agg, ↓z_mn_tup, ↓z_mn_int, ↓z_mn_sl, ↓z_mn_ptr, ↓z_pg_nil, ↓z_store, ↓y_sz75, ↓z_cl_agg, List.length_cons, List.length_nil, Nat.zero_add, Nat.reduceAdd, ↓z_store_ptr, ↓lkoW_cons, Nat.reduceLeDiff, ↓spsW_cons, ↓drW_cons, ↓drW_nil, ↓z_cat_nil_r, ↓z_so_cons, ↓z_put_none, ↓z_assign, ↓z_ops_nil, ↓z_seq_nrm, ↓z_seq, ↓z_region, ↓z_unOp, ↓z_un_not, ↓z_ops_guard, ↓z_grd, ↓z_dst_s, ↓z_dst_0, ↓z_grdD_b, ↓z_gnf, ↓z_gtt, ↓z_fieldAddr, ↓y_fl75x2, ↓y_sz24, ne_eq, not_false_eq_true, ↓z_fa_ptr, ↓z_gff, ↓z_load, ↓y_ty24, ↓z_agTy_st, ↓loadW_ptr, ↓z_rd_t, ↓z_sub_cs, ↓z_sub_c, ↓z_sub_nil, ↓z_callv, ↓evW_func, ↓z_evL_cons, ↓z_evL_nil, ↓z_fun0, ↓z_coeL_cons, ↓z_coe_oag, ↓z_coeC_cons, ↓z_coeS_int, ↓z_coeS_sl, ↓z_coeC_nil, ↓z_coeL_nil, true_and])
    refine call_fn ((fn_refCheck G rate m'.2.2).out (by rw [hm'.chk])) fun _ => ?_
    (simp -dsimp only [↓z_put, Nat.reduceLT, ↓z_ops_guard, ↓z_grd, ↓z_dst_s, ↓z_dst_0, ↓lkW_cons, Nat.reduceEqDiff, ↓reduceIte, ↓z_grdD_b, ↓z_gff, ↓z_binOp, ↓evW_tmp, ↓evW_const, ↓constW_int, inR_i64, Int.reduceNeg, Int.reduceLE, and_self, ↓z_bn_neq, ↓z_ops_plain, ↓z_pick, ↓z_pick_b, ↓z_gft, ↓z_ops_nil, ↓z_seq_nrm, ↓z_cond, ↓z_cnd, ↓z_gdt, ne_eq, not_true_eq_false, ↓z_skip, ↓z_seq, ↓z_region, ↓z_fieldAddr, ↓y_fl75x2, ↓y_sz24, reduceCtorEq, not_false_eq_true, ↓z_fa_ptr, ↓z_load, ↓y_ty24, ↓z_agTy_st, ↓loadW_ptr, ↓lkoW_cons, ↓z_rd_t, Nat.zero_add, Nat.reduceAdd, List.length_cons, List.length_nil, Nat.reduceLeDiff, ↓z_sub_cs, ↓z_sub_c, ↓z_sub_nil, ↓y_fl75x1, ↓y_sz3, ↓y_ty3, ↓z_agTy_int, ↓z_rd_f, ↓nthW_cons, Nat.reduceSub, ↓z_bn_quo, ↓z_quo_i64, Int.reduceEq, ↓z_callv, ↓evW_func, ↓z_evL_cons, ↓z_evL_nil, ↓z_fun0, ↓z_coeL_cons, ↓z_coe_oag, ↓z_coeC_cons, ↓z_coeS_int, ↓z_coeS_sl, ↓z_coeC_nil, ↓z_coe_int, ↓z_coeL_nil, true_and])
    have p1 := hm'.n0
    have p2 := hm'.n1
    have p3 := hm'.v0
    have p4 := hm'.v1
    have ed : m'.2.1.tdiv 1000000 = m'.2.1 / 1000000 := Int.tdiv_eq_ediv_of_nonneg p3
    obtain ⟨w1, w2, w3⟩ := now_true hm'.chk hm'.tr p1 (by omega) ⟨by omega, by omega⟩
    obtain ⟨_, _, u1, u2⟩ := now_okE w1
    rw [ed]
    refine ⟨by omega, call_fn (fn_Now G rate (m'.2.1 / 1000000) m'.2.2) fun _ => ?_⟩
    rw [w1, u1, u2]
    (simp -dsimp only [↓z_put, Nat.reduceLT, ↓z_ops_plain, ↓z_move, ↓evW_tmp, ↓lkW_cons, ↓reduceIte, ↓z_extract, ↓z_ex, ↓nthW_cons, Nat.reduceEqDiff, reduceCtorEq, Nat.reduceSub, ↓z_alloc, ↓y_zr27, ↓z_new, ↓z_nm_cons, ↓z_nmC_cons, ↓z_mn'_int, ↓z_mn'_sl, ↓z_nmC_nil, and_self, ↓z_nm_nil, Nat.reduceAdd, ↓z_pg_cons, ↓z_mn_int, ↓z_mn_agg, ↓z_mn_tup, ↓z_mn_ptr, ↓z_mn_oag, ↓z_mnL_int, ↓z_mnL_sl, ↓z_mnL_nil, ↓z_mn_bool, ↓z_mn_sl, ↓z_pg_nil, ↓z_store, ↓y_sz27, ↓z_cl_agg, List.length_cons, List.length_nil, Nat.zero_add, ↓z_store_ptr, ↓lkoW_cons, Nat.reduceLeDiff, ↓spsW_cons, ↓drW_cons, ↓drW_nil, ↓z_cat_nil_r, ↓z_so_cons, ↓z_put_none, ↓z_assign, ↓z_ops_nil, ↓z_seq_nrm, ↓z_seq, ↓z_region, ↓z_binOp, ↓evW_const, ↓constW_int, inR_i64, Int.reduceNeg, Int.reduceLE, ↓z_bn_neq, ↓z_ops_guard, ↓z_grd, ↓z_dst_s, ↓z_dst_0, ↓z_grdD_b, ↓z_gdf, ne_eq, not_true_eq_false, ↓z_fieldAddr, ↓y_fl27x0, ↓y_sz3, not_false_eq_true, ↓z_fa_ptr, ↓z_gff, ↓z_load, ↓y_ty3, ↓z_agTy_int, ↓loadW_ptr, ↓z_rd_f, ↓y_fl75x0, ↓z_bn_gtr, ↓z_pick, ↓z_pick_b, ↓z_gft, ↓z_gnf, ↓z_gnt, ↓constW_bool, ↓z_cond, ↓z_cnd, ↓z_gtt, ↓z_ret, ↓z_seq_rt, ↓z_blk_rt, ↓z_lp_rt, ↓z_end_rt, resLW, res1W, Bool.not_false, Bool.not_true, ↓z_coeL_cons, ↓z_coeL_nil, ↓z_pack1, ↓z_coe_bool, D.bool.injEq, and_false, ↓y_fl27x1, ↓z_bn_lss, ↓z_gdt, ↓z_skip, ↓y_ty75, ↓y_sz75, ↓z_agTy_st, ↓z_rd_t, ↓z_sub_c, ↓z_sub_nil, ↓z_cl_oag, ↓z_blk_nrm, ↓z_bn_add, ↓wrW_i64, ↓z_lp_nrm, ↓z_wk, ↓z_wkE_cons, D.int.injEq, true_and, ↓z_wkE_nil, and_true, ↓z_wkO_cons, List.cons.injEq, D.sl.injEq, ↓z_wkO_nil, z_ite]); (try simp only [Int.toNat_natCast, Nat.mul_one, Bool.or_false, Bool.false_or, Bool.or_self, Bool.or_true])
    exact ⟨fun hh => by omega, fun _ => ⟨fun hh => by omega, fun _ => ⟨by omega, i + 1, by omega, by omega, by omega, by rw [hnx]; exact ⟨rfl, rfl, rfl, rfl⟩⟩⟩⟩
  · unfold moA
    (simp -dsimp only [↓z_seq, ↓z_region, ↓z_ops_plain, ↓z_binOp, ↓evW_tmp, ↓lkW_cons, ↓reduceIte, Nat.reduceEqDiff, ↓z_bn_lss, ↓z_put, Nat.reduceLT, ↓z_ops_nil, ↓z_seq_nrm, ↓z_cond, ↓z_cnd, ↓z_gdt, ↓z_skip, ↓z_block, ↓z_indexAddr, ↓y_ty71, ↓z_elTy_sl, ↓y_sz78, ↓z_ix_sl, ↓z_load, ↓y_ty78, ↓z_agTy_st, ↓loadW_rop, ↓z_rd_t, ↓z_alloc, ↓y_zr78, ↓z_new, ↓z_nm_cons, ↓z_nmC_cons, ↓z_mn'_int, ↓z_mn'_sl, ↓z_nmC_nil, and_self, ↓z_nm_nil, ↓z_pg_cons, ↓z_mn_agg, ↓z_mn_rop, ↓z_mn_bool, ↓z_mn_int, ↓z_mn_sl, ↓z_mn_ptr, ↓z_pg_nil, ↓z_store, ↓z_cl_agg, ↓z_store_ptr, ↓lkoW_cons, Nat.zero_add, List.length_cons, List.length_nil, Nat.reduceAdd, Nat.reduceLeDiff, ↓spsW_cons, ↓drW_cons, reduceCtorEq, Nat.reduceSub, ↓drW_nil, ↓z_cat_nil_r, ↓z_so_cons, ↓z_put_none, ↓y_ty75, ↓y_sz75, ↓loadW_ptr, ↓z_sub_c, ↓z_sub_nil, ↓z_callv, ↓evW_func, ↓z_evL_cons, ↓z_evL_nil, ↓z_fun0, ↓z_coeL_cons, ↓z_coe_oag, ↓z_coeC_cons, ↓z_coeS_int, ↓z_coeS_sl, ↓z_coeC_nil, ↓z_coeL_nil, true_and, z_sub, List.length_take, List.length_drop, ↓z_exit, ↓z_seq_ext, ↓z_lp_ext, ↓z_blk_ext, z_ite]); (try simp only [Int.toNat_natCast])
    exact ⟨fun hn => absurd hn (by omega), fun _ => call_fn (fn_sanity G) fun _ => by (simp -dsimp only [↓z_put, Nat.reduceLT, ↓z_ops_plain, ↓z_assign, ↓evW_tmp, ↓lkW_cons, ↓reduceIte, ↓z_ops_nil, ↓z_seq_nrm, ↓z_ret, ↓z_end_rt, resLW, res1W, ↓z_coeL_cons, ↓z_coeL_nil, ↓z_pack1, ↓z_coe_bool, and_self]); (try simp only [Int.toNat_natCast, Nat.mul_one, Bool.or_false, Bool.false_or, Bool.or_self, Bool.or_true])⟩
set_option maxRecDepth 100000 in
set_option maxHeartbeats 16000000 in
theorem fn_LawS (G : Glob) (a b : Int) (ss : List Sp) (ar : List Int) (hr : ∀ x ∈ ar, -32768 ≤ x ∧ x ≤ 32767) (ha : 0 ≤ a) (hb : 0 ≤ b) (hb1 : b ≤ 4294967295) (hs : ∀ s ∈ ss, spP s) : Fn G Try.prog 8 [.agg [.int .u32 a, .int .u32 b, .sl 5 ss.length (List.flatMap spC ss)], .sl 1 ar.length (ar.map (D.int .i16))] (.bool true) := by
  refine Fn.mk (c := _) Try.func8 rfl rfl Try.ntmps8 Try.results8 ?_
  (simp -dsimp only [bodyW, List.length_cons, List.length_nil, Nat.zero_add, Nat.reduceAdd, Nat.reduceLeDiff, wfL, ↓z_seq, ↓z_region, ↓z_ops_plain, ↓z_box, ↓evW_tmp, ↓z_lk_env, ↓reduceIte, ↓z_cl_agg, ↓z_nmC_cons, ↓z_mn'_int, ↓z_mn'_sl, ↓z_nmC_nil, and_self, ↓z_new, ↓z_nm_nil, Nat.reduceLT, ↓z_pg_env, ↓z_mn_agg, ↓z_mn_sl, ↓z_pg_env0, ↓z_put, ↓z_assign, ↓evW_const, ↓constW_bool, ↓z_ops_nil, ↓z_seq_nrm, ↓z_fieldAddr, ↓lkW_cons, Nat.reduceEqDiff, ↓y_fl73x2, ↓y_sz71, ne_eq, reduceCtorEq, not_false_eq_true, ↓z_fa_ptr, ↓z_load, ↓y_ty71, ↓z_agTy_sl, ↓loadW_ptr, ↓lkoW_cons, ↓z_rd_f, ↓nthW_cons, Nat.reduceSub, ↓z_callb, ↓z_evL_cons, ↓z_evL_nil, ↓z_len, ↓z_ln_sl, ↓z_binOp, ↓constW_int, inR_i64, Int.reduceNeg, Int.reduceLE, ↓z_bn_gtr, ↓z_cond, ↓z_cnd, ↓z_gdt, ↓z_callv, ↓evW_func, ↓z_fun0, ↓z_coeL_nil, ↓z_skip, ↓y_ty73, ↓y_sz73, ↓z_agTy_st, ↓z_rd_t, ↓z_sub_c, ↓z_sub_nil, ↓z_coeL_cons, ↓z_coe_oag, ↓z_coeC_cons, ↓z_coeS_int, ↓z_coeS_sl, ↓z_coeC_nil, true_and, z_ite])
  intro hd _
  refine ⟨fun g => call_fn (fn_sanity G) fun _ => by (simp -dsimp only [↓z_put, Nat.reduceLT, ↓z_ops_plain, ↓z_assign, ↓evW_tmp, ↓lkW_cons, ↓reduceIte, ↓z_ops_nil, ↓z_seq_nrm, ↓z_ret, ↓z_seq_rt, ↓z_end_rt, resLW, res1W, Nat.zero_add, ↓z_coeL_cons, ↓z_coeL_nil, ↓z_pack1, ↓z_coe_bool, and_self]); (try simp only [Int.toNat_natCast, Nat.mul_one, Bool.or_false, Bool.false_or, Bool.or_self, Bool.or_true]), fun g => ?_⟩
  have hB := fn_begun G a b ha hb hb1 (List.flatMap spC ss) ss.length
  have hP := begun_P ha hb
  generalize a % 100001 = rate at hB hP
  obtain ⟨m0, hm0⟩ : ∃ m : Mo, m = (0, b % 100000 * 1000000 / 7, []) := ⟨_, rfl⟩
  rw [← hm0] at hB hP
  have hP' := goS_P hP hs (by omega)
  unfold moA at hB
  refine call_fn hB fun _ => ?_
  (simp -dsimp only [↓z_put, Nat.reduceLT, ↓z_ops_plain, ↓z_alloc, ↓y_zr75, ↓z_new, ↓z_nm_cons, ↓z_nmC_cons, ↓z_mn'_int, ↓z_mn'_sl, ↓z_nmC_nil, and_self, ↓z_nm_nil, Nat.zero_add, ↓z_pg_cons, ↓z_mn_agg, ↓z_mn_oag, ↓z_mnL_int, ↓z_mnL_sl, ↓z_mnL_nil, ↓z_mn_bool, ↓z_mn_int, ↓z_mn_sl, ↓z_mn_ptr, reduceCtorEq, ↓reduceIte, ↓z_pg_nil, ↓z_store, ↓evW_tmp, ↓lkW_cons, Nat.reduceEqDiff, ↓y_sz75, ↓z_cl_agg, List.length_cons, List.length_nil, Nat.reduceAdd, ↓z_store_ptr, ↓lkoW_cons, Nat.reduceLeDiff, ↓spsW_cons, ↓drW_cons, Nat.reduceSub, ↓drW_nil, ↓z_cat_nil_r, ↓z_so_cons, ↓z_put_none, ↓z_ops_nil, ↓z_seq_nrm, ↓z_seq, ↓z_region, ↓z_fieldAddr, ↓y_fl73x2, ↓y_sz71, ne_eq, not_false_eq_true, ↓z_fa_ptr, ↓z_load, ↓y_ty71, ↓z_agTy_sl, ↓loadW_ptr, ↓z_rd_f, ↓nthW_cons, ↓z_callb, ↓z_evL_cons, ↓z_evL_nil, ↓z_len, ↓z_ln_sl, ↓z_move, ↓evW_const, ↓constW_int, inR_i64, Int.reduceNeg, Int.reduceLE, ↓z_block, ↓z_loop, true_and])
  refine hold_intro ⟨[], Nat, fun i => ⟨126, 2, [(26, .int .i64 i), (25, .int .i64 ss.length), (24, .sl 5 ss.length (List.flatMap spC ss)), (5, .ptr 1 0), (1, .sl 1 ar.length (ar.map (D.int .i16)))], [(1, moA rate (goS rate m0 ss i)), (0, [.int .u32 a, .int .u32 b, .sl 5 ss.length (List.flatMap spC ss)])]⟩, fun i => i ≤ ss.length, fun i => ss.length - i, ?_, ?_⟩
  · (simp -dsimp only [↓z_ad_nil, ↓z_wk, ↓z_wkE_cons, ↓lkW_cons, ↓reduceIte, D.int.injEq, true_and, Nat.reduceEqDiff, Nat.zero_add, reduceCtorEq, ↓z_wkE_nil, and_self, and_true, ↓z_wkO_cons, ↓lkoW_cons, ↓z_wkO_nil]); (try simp only [Int.toNat_natCast, Nat.mul_one, Bool.or_false, Bool.false_or, Bool.or_self, Bool.or_true])
    exact ⟨0, by omega, rfl, rfl⟩
  rintro i hi
  have hm := hP' i hi
  have hl := sp_len ss
  generalize hM : goS rate m0 ss i = m at hm
  by_cases h : i < ss.length
  · have hop : ((List.flatMap spC ss).drop (i * 5)).take 5 = [.int .u16 ss[i].1, .int .i32 ss[i].2.1, .int .u8 ss[i].2.2.1, .int .u8 ss[i].2.2.2.1, .int .u8 ss[i].2.2.2.2] := sp_at h
    have hm' := hP' (i + 1) (by omega)
    rw [goS_s h, hM] at hm'
    have hs' := hs _ (List.getElem_mem h)
    have hG := fn_goOn G rate i m ss[i] hm (by omega) (by omega) hs'
    have hnx : goS rate m0 ss (i + 1) = goM rate m ss[i] := by rw [goS_s h, hM]
    generalize goM rate m ss[i] = m' at hm' hG hnx
    unfold moA at hG ⊢
    unfold spC at hG
    (simp -dsimp only [↓z_seq, ↓z_region, ↓z_ops_plain, ↓z_binOp, ↓evW_tmp, ↓lkW_cons, ↓reduceIte, Nat.reduceEqDiff, ↓z_bn_lss, ↓z_put, Nat.reduceLT, ↓z_ops_nil, ↓z_seq_nrm, ↓z_cond, ↓z_cnd, ↓z_gdt, ↓z_skip, ↓z_block, ↓z_move, ↓z_indexAddr, ↓y_ty71, ↓z_elTy_sl, ↓y_sz78, ↓z_ix_sl, ↓z_load, ↓y_ty78, ↓z_agTy_st, ↓loadW_rop, ↓z_rd_t, ↓z_alloc, ↓y_zr78, ↓z_new, ↓z_nm_cons, ↓z_nmC_cons, ↓z_mn'_int, ↓z_mn'_sl, ↓z_nmC_nil, and_self, ↓z_nm_nil, ↓z_pg_cons, ↓z_mn_agg, ↓z_mn_rop, ↓z_mn_int, ↓z_mn_bool, ↓z_mn_sl, ↓z_mn_ptr, ↓z_pg_nil, ↓z_assign, ↓z_store, ↓z_cl_agg, ↓z_store_ptr, ↓lkoW_cons, Nat.zero_add, List.length_cons, List.length_nil, Nat.reduceAdd, Nat.reduceLeDiff, ↓spsW_cons, ↓drW_cons, reduceCtorEq, Nat.reduceSub, ↓drW_nil, ↓z_cat_nil_r, ↓z_so_cons, ↓z_put_none, ↓y_ty75, ↓y_sz75, ↓loadW_ptr, hM, ↓z_sub_c, ↓z_sub_nil, ↓z_callv, ↓evW_func, ↓z_evL_cons, ↓z_evL_nil, ↓z_fun0, ↓z_coeL_cons, ↓z_coe_oag, ↓z_coeC_cons, ↓z_coeS_int, ↓z_coeS_sl, ↓z_coeC_nil, ↓z_coeL_nil, true_and, z_sub, List.drop_zero, List.length_take, List.length_drop, ↓z_exit, ↓z_seq_ext, ↓z_lp_ext, ↓z_blk_ext, z_ite]); (try simp only [Int.toNat_natCast])
    refine ⟨fun _ => ⟨by omega, by omega, by rw [hl]; omega, ?_⟩, fun hn => absurd h (by omega)⟩
    rw [hM]
    simp only [hop, hl]
    (simp -dsimp only [List.take_succ_cons, List.take_zero, ↓z_coeC_cons, ↓z_coeS_int, ↓z_coeC_nil]); (try simp only [Int.toNat_natCast, Nat.mul_one, Bool.or_false, Bool.false_or, Bool.or_self, Bool.or_true])
    refine ⟨by omega, by omega, call_wk ⟨126, 2, [(6, .int .i64 i), (26, .int .i64 i), (25, .int .i64 ss.length), (24, .sl 5 ss.length (List.flatMap spC ss)), (5, .ptr 1 0), (1, .sl 1 ar.length (ar.map (D.int .i16)))], [(1, [.int .i64 m.1, .int .i64 m.2.1, .int .i64 rate, .sl 3 m.2.2.length (List.flatMap rdC m.2.2)]), (0, [.int .u32 a, .int .u32 b, .sl 5 ss.length (List.flatMap spC ss)])]⟩ (by (simp -dsimp only [↓z_wk, ↓z_wkE_cons, ↓lkW_cons, Nat.reduceEqDiff, ↓reduceIte, ↓z_wkE_nil, and_self, ↓z_wkO_cons, ↓lkoW_cons, reduceCtorEq, ↓z_wkO_nil]); (try simp only [Int.toNat_natCast, Nat.mul_one, Bool.or_false, Bool.false_or, Bool.or_self, Bool.or_true])) (call0_fn hG fun _ => ?_)⟩
    (simp -dsimp only [↓z_put, Nat.reduceLT, ↓z_ops_plain, ↓z_move, ↓evW_tmp, ↓lkW_cons, ↓reduceIte, ↓z_extract, ↓z_ex, ↓nthW_cons, Nat.reduceEqDiff, reduceCtorEq, Nat.reduceSub, ↓z_alloc, ↓y_zr75, ↓z_new, ↓z_nm_cons, ↓z_nmC_cons, ↓z_mn'_int, ↓z_mn'_sl, ↓z_nmC_nil, and_self, ↓z_nm_nil, ↓z_pg_cons, ↓z_mn_bool, ↓z_mn_agg, ↓z_mn_tup, ↓z_mn_int, ↓z_mn_sl, ↓z_mn_ptr, ↓z_pg_nil, ↓z_store, ↓y_sz75, ↓z_cl_agg, List.length_cons, List.length_nil, Nat.zero_add, Nat.reduceAdd, ↓z_store_ptr, ↓lkoW_cons, Nat.reduceLeDiff, ↓spsW_cons, ↓drW_cons, ↓drW_nil, ↓z_cat_nil_r, ↓z_so_cons, ↓z_put_none, ↓z_assign, ↓z_ops_nil, ↓z_seq_nrm, ↓z_seq, ↓z_region, ↓z_unOp, ↓z_un_not, ↓z_cond, ↓z_cnd, ↓z_gnt, ↓z_gtf, ↓z_skip, ↓z_load, ↓y_ty75, ↓z_agTy_st, ↓loadW_ptr, ↓z_rd_t, ↓z_sub_c, ↓z_sub_nil, ↓z_cl_oag, ↓z_region_d, ↓y_mix, true_and])
    refine rgn_d (by decide +kernel) ?_
    (simp -dsimp only [↓z_drw_move, ↓z_drwS, ↓z_grd_none, ↓z_withE, ↓z_rd_tmp, ↓lkW_cons, Nat.reduceEqDiff, ↓reduceIte, ↓z_rd_nil, ↓z_ap_cons, ↓z_ap_nil, ↓z_move, ↓evW_tmp, Nat.reduceAdd, and_true, ↓z_exD_all, ↓z_exD_eq, ↓z_put, Nat.reduceLT, ↓z_drwK, ↓z_drw_callb_len, ↓z_callb, ↓z_evL_cons, ↓z_evL_nil, ↓z_len, ↓y_ty82, ↓z_ln_sl, ↓z_drw_binOp, ↓z_binOp, ↓z_bn_geq, ↓z_drw_fieldAddr, ↓z_grd, ↓z_dst_s, ↓z_dst_0, ↓z_grdD_b, ↓z_gdf, ↓z_drw_load, ↓z_gnf, ↓z_gft, ↓z_drw_indexAddr, ↓z_drw_convert, ↓z_drw_pick, ↓z_rd_const, ↓z_pick, ↓z_pick_b, ↓z_gnt, ↓z_gff, ↓evW_const, ↓constW_bool, Bool.not_false, ↓z_drw_nil, ↓z_seq_nrm, ↓z_cond, ↓z_cnd, ↓z_gtt, ↓z_exit, ↓z_seq_ext, ↓z_blk_ext, ↓z_region, ↓z_ops_plain, ↓constW_int, inR_i64, Int.reduceNeg, Int.reduceLE, and_self, ↓z_bn_add, ↓wrW_i64, ↓z_ops_nil, ↓z_lp_nrm, ↓z_wk, ↓z_wkE_cons, D.int.injEq, true_and, ↓z_wkE_nil, ↓z_wkO_cons, ↓lkoW_cons, List.cons.injEq, D.sl.injEq, reduceCtorEq, ↓z_wkO_nil, ↓z_fieldAddr, ↓y_fl75x0, ↓y_sz3, ne_eq, not_false_eq_true, ↓z_fa_ptr, Nat.zero_add, ↓z_load, ↓y_ty3, ↓z_agTy_int, ↓loadW_ptr, ↓z_rd_f, ↓nthW_cons, ↓z_indexAddr, ↓z_elTy_sl, ↓y_sz83, ↓z_ix_sl, Nat.mul_one, ↓z_exD_and, ↓y_ty83, ↓loadW_rop, ↓z_nth_int, ↓z_exD_ex, ↓z_convert, ↓z_cvt_int, ↓z_cv_int, cvi_i16, ↓z_bn_lss, ↓z_gdt, ↓z_skip, ↓z_seq, ↓z_region_d, ↓y_mix, z_ite]); (try simp only [Int.toNat_natCast])
    have p1 := hm'.n0
    have p2 := hm'.n1
    have p3 := hm'.v0
    have p4 := hm'.v1
    refine ⟨fun _ => ⟨by omega, i + 1, by omega, by omega, by omega, by rw [hnx]; exact ⟨rfl, rfl, rfl, rfl⟩⟩, fun ha' => ?_⟩
    have har : i < ar.length := by omega
    have hz := hr _ (List.getElem_mem har)
    refine ⟨by omega, by omega, har, ?_⟩
    refine ⟨by omega, fun _ => ⟨by omega, i + 1, by omega, by omega, by omega, by rw [hnx]; exact ⟨rfl, rfl, rfl, rfl⟩⟩, fun hz0 => rgn_d (by decide +kernel) ?_⟩
    (simp -dsimp only [↓z_drw_fieldAddr, ↓z_drwS, ↓z_grd_none, ↓z_withE, ↓z_rd_tmp, ↓lkW_cons, Nat.reduceEqDiff, ↓reduceIte, ↓z_rd_nil, ↓z_ap_cons, ↓z_ap_nil, ↓z_fieldAddr, ↓evW_tmp, ↓y_fl75x0, ↓y_sz3, ne_eq, reduceCtorEq, not_false_eq_true, ↓z_fa_ptr, Nat.zero_add, Nat.reduceAdd, and_true, true_and, ↓z_exD_all, ↓z_exD_eq, ↓z_put, Nat.reduceLT, ↓z_drwK, ↓z_drw_load, ↓z_load, ↓y_ty3, ↓z_agTy_int, ↓loadW_ptr, ↓lkoW_cons, ↓z_rd_f, ↓nthW_cons, ↓z_drw_move, ↓z_move, ↓z_drw_indexAddr, ↓z_indexAddr, ↓y_ty82, ↓z_elTy_sl, ↓y_sz83, ↓z_ix_sl, Nat.mul_one, ↓z_exD_and, ↓y_ty83, ↓loadW_rop, ↓z_nth_int, ↓z_exD_ex, ↓z_drw_convert, ↓z_convert, ↓z_cvt_int, ↓z_cv_int, cvi_i16, ↓z_drw_binOp, ↓z_binOp, ↓z_bn_add, ↓wrW_i64, inR_i64, Int.reduceNeg, ↓y_fl75x1, Nat.reduceSub, ↓z_rd_const, ↓evW_const, ↓constW_int, Int.reduceLE, and_self, ↓z_bn_quo, ↓z_quo_i64, Int.reduceEq, ↓z_drw_assign, ↓z_assign, ↓z_drw_nil, ↓z_seq_nrm, ↓z_seq, ↓z_region, ↓z_ops_plain, ↓y_fl75x2, ↓y_sz24, ↓y_ty24, ↓z_agTy_st, ↓z_rd_t, List.length_cons, List.length_nil, Nat.reduceLeDiff, ↓z_sub_cs, ↓z_sub_c, ↓z_sub_nil, ↓z_callv, ↓evW_func, ↓z_evL_cons, ↓z_evL_nil, ↓z_fun0, ↓z_coeL_cons, ↓z_coe_oag, ↓z_coeC_cons, ↓z_coeS_int, ↓z_coeS_sl, ↓z_coeC_nil, ↓z_coe_int, ↓z_coeL_nil]); (try simp only [Int.toNat_natCast])
    have ed : m'.2.1.tdiv 1000000 = m'.2.1 / 1000000 := Int.tdiv_eq_ediv_of_nonneg p3
    obtain ⟨w1, w2, w3⟩ := now_true hm'.chk hm'.tr p1 (by omega) ⟨by omega, by omega⟩
    obtain ⟨_, _, u1, u2⟩ := now_okE w1
    rw [ed]
    have hdue : instP (m'.1 + ar[i]) := ⟨by omega, by omega⟩
    obtain ⟨due, hdz⟩ : ∃ d, d = m'.1 + ar[i] := ⟨_, rfl⟩
    rw [← hdz] at hdue
    obtain ⟨q, hq⟩ := lat_cut rate due m'.2.2
    obtain ⟨p, hp⟩ := ear_cut rate due m'.2.2
    have f1 : latE rate due m'.2.2 q = 0 → m'.2.1 / 1000000 ≤ latN rate due m'.2.2 q → ¬ due < m'.1 := fun h1 h2 => by
      have := (lat_fact (hq hm'.chk) h1 w1).1 h2; rw [u2] at this; omega
    have f2 : earE rate due m'.2.2 p = 0 → earN rate due m'.2.2 p ≤ m'.2.1 / 1000000 → ¬ m'.1 < due := fun h1 h2 => by
      have := (ear_fact (hp hm'.chk) h1 w1).1 h2; rw [u1] at this; omega
    have f0 := (fir_0 (due := due) (r := 0) hm'.chk hdue).1
    have c1 : latE rate due m'.2.2 q = 0 ∨ latE rate due m'.2.2 q = 8 := by unfold latE; rw [f0, if_neg (by omega)]; split <;> simp
    have c2 : earE rate due m'.2.2 p = 0 ∨ earE rate due m'.2.2 p = 8 := by unfold earE; rw [f0, if_neg (by omega)]; split <;> simp
    have hL := fn_Latest G rate m'.2.2 due q hq
    have hE := fn_Earliest G rate m'.2.2 due p hp
    generalize latE rate due m'.2.2 q = le at hL f1 c1
    generalize latN rate due m'.2.2 q = ln at hL f1
    generalize earE rate due m'.2.2 p = ee at hE f2 c2
    generalize earN rate due m'.2.2 p = en at hE f2
    refine ⟨by omega, by omega, har, by omega, by omega, ?_⟩
    refine call_wk ⟨126, 2, [(10, .int .i64 due), (11, .int .i64 (m'.2.1 / 1000000)), (26, .int .i64 i), (25, .int .i64 ss.length), (24, .sl 5 ss.length (List.flatMap spC ss)), (5, .ptr 1 0), (1, .sl 1 ar.length (ar.map (D.int .i16)))], [(1, [.int .i64 m'.1, .int .i64 m'.2.1, .int .i64 rate, .sl 3 m'.2.2.length (List.flatMap rdC m'.2.2)]), (0, [.int .u32 a, .int .u32 b, .sl 5 ss.length (List.flatMap spC ss)])]⟩ (by (simp -dsimp only [↓z_wk, ↓z_wkE_cons, ↓lkW_cons, Nat.reduceEqDiff, ↓reduceIte, hdz, ↓z_wkE_nil, and_self, ↓z_wkO_cons, ↓lkoW_cons, reduceCtorEq, ↓z_wkO_nil]); (try simp only [Int.toNat_natCast, Nat.mul_one, Bool.or_false, Bool.false_or, Bool.or_self, Bool.or_true])) ?_
    refine call0_fn (hL.inp (by rw [hdz]; rfl)) fun _ => ?_
    (simp -dsimp only [↓z_put, Nat.reduceLT, ↓z_ops_plain, ↓z_move, ↓evW_tmp, ↓lkW_cons, ↓reduceIte, ↓z_extract, ↓z_ex, ↓nthW_cons, Nat.reduceEqDiff, reduceCtorEq, Nat.reduceSub, ↓z_assign, ↓z_ops_nil, ↓z_seq_nrm, ↓z_seq, ↓z_region, ↓z_fieldAddr, ↓y_fl75x2, ↓y_sz24, ne_eq, not_false_eq_true, ↓z_fa_ptr, ↓z_load, ↓y_ty24, ↓z_agTy_st, ↓loadW_ptr, ↓lkoW_cons, ↓z_rd_t, Nat.zero_add, Nat.reduceAdd, List.length_cons, List.length_nil, Nat.reduceLeDiff, ↓z_sub_cs, ↓z_sub_c, ↓z_sub_nil, ↓z_callv, ↓evW_func, ↓z_evL_cons, ↓z_evL_nil, ↓z_fun0, ↓z_coeL_cons, ↓z_coe_oag, ↓z_coeC_cons, ↓z_coeS_int, ↓z_coeS_sl, ↓z_coeC_nil, ↓z_coe_int, ↓z_coeL_nil, true_and]); (try simp only [Int.toNat_natCast, Nat.mul_one, Bool.or_false, Bool.false_or, Bool.or_self, Bool.or_true])
    refine call_fn hE fun _ => ?_
    rcases c1 with rfl | rfl <;> rcases c2 with rfl | rfl
    all_goals (simp -dsimp only [↓z_put, Nat.reduceLT, ↓z_ops_plain, ↓z_move, ↓evW_tmp, ↓lkW_cons, ↓reduceIte, ↓z_extract, ↓z_ex, ↓nthW_cons, Nat.reduceEqDiff, reduceCtorEq, Nat.reduceSub, ↓z_assign, ↓z_ops_nil, ↓z_seq_nrm, ↓z_seq, ↓z_region, ↓z_binOp, ↓evW_const, ↓constW_int, inR_i64, Int.reduceNeg, Int.reduceLE, and_self, ↓z_bn_neq, ↓z_ops_guard, ↓z_grd, ↓z_dst_s, ↓z_dst_0, ↓z_grdD_b, ↓z_gdt, ne_eq, not_true_eq_false, ↓z_gnt, ↓z_gtf, ↓z_pick, ↓z_pick_b, ↓constW_bool, ↓z_gff, ↓z_gft, ↓z_bn_eql, ↓z_gtt, ↓z_bn_leq, ↓z_fieldAddr, ↓y_fl75x0, ↓y_sz3, not_false_eq_true, ↓z_fa_ptr, ↓z_load, ↓y_ty3, ↓z_agTy_int, ↓loadW_ptr, ↓lkoW_cons, ↓z_rd_f, Nat.zero_add, ↓z_bn_gtr, ↓z_gdf, ↓z_gnf, ↓z_grdD_u, ↓z_cond, ↓z_cnd, ↓z_ret, ↓z_blk_rt, ↓z_seq_rt, ↓z_lp_rt, ↓z_end_rt, resLW, res1W, Bool.not_false, Bool.not_true, ↓z_coeL_cons, ↓z_coeL_nil, ↓z_pack1, ↓z_coe_bool, D.bool.injEq, and_false, ↓z_bn_geq, ↓z_bn_lss, ↓z_skip, ↓z_blk_nrm, ↓z_bn_add, ↓wrW_i64, ↓z_lp_nrm, ↓z_wk, ↓z_wkE_cons, D.int.injEq, true_and, ↓z_wkE_nil, and_true, ↓z_wkO_cons, List.cons.injEq, D.sl.injEq, ↓z_wkO_nil, z_ite, Int.reduceEq]); (try simp only [Int.toNat_natCast, Nat.mul_one, Bool.or_false, Bool.false_or, Bool.or_self, Bool.or_true])
    all_goals repeat' first
      | exact ⟨by omega, i + 1, by omega, by omega, by omega, by rw [hnx]; exact ⟨rfl, rfl, rfl, rfl⟩⟩
      | refine And.intro ?_ ?_
      | (show False; omega)
      | intro _
  · unfold moA
    (simp -dsimp only [↓z_seq, ↓z_region, ↓z_ops_plain, ↓z_binOp, ↓evW_tmp, ↓lkW_cons, ↓reduceIte, Nat.reduceEqDiff, ↓z_bn_lss, ↓z_put, Nat.reduceLT, ↓z_ops_nil, ↓z_seq_nrm, ↓z_cond, ↓z_cnd, ↓z_gdt, ↓z_skip, ↓z_block, ↓z_move, ↓z_indexAddr, ↓y_ty71, ↓z_elTy_sl, ↓y_sz78, ↓z_ix_sl, ↓z_load, ↓y_ty78, ↓z_agTy_st, ↓loadW_rop, ↓z_rd_t, ↓z_alloc, ↓y_zr78, ↓z_new, ↓z_nm_cons, ↓z_nmC_cons, ↓z_mn'_int, ↓z_mn'_sl, ↓z_nmC_nil, and_self, ↓z_nm_nil, ↓z_pg_cons, ↓z_mn_agg, ↓z_mn_rop, ↓z_mn_int, ↓z_mn_bool, ↓z_mn_sl, ↓z_mn_ptr, ↓z_pg_nil, ↓z_assign, ↓z_store, ↓z_cl_agg, ↓z_store_ptr, ↓lkoW_cons, Nat.zero_add, List.length_cons, List.length_nil, Nat.reduceAdd, Nat.reduceLeDiff, ↓spsW_cons, ↓drW_cons, reduceCtorEq, Nat.reduceSub, ↓drW_nil, ↓z_cat_nil_r, ↓z_so_cons, ↓z_put_none, ↓y_ty75, ↓y_sz75, ↓loadW_ptr, ↓z_sub_c, ↓z_sub_nil, ↓z_callv, ↓evW_func, ↓z_evL_cons, ↓z_evL_nil, ↓z_fun0, ↓z_coeL_cons, ↓z_coe_oag, ↓z_coeC_cons, ↓z_coeS_int, ↓z_coeS_sl, ↓z_coeC_nil, ↓z_coeL_nil, true_and, z_sub, List.length_take, List.length_drop, ↓z_exit, ↓z_seq_ext, ↓z_lp_ext, ↓z_blk_ext, z_ite]); (try simp only [Int.toNat_natCast])
    exact ⟨fun hn => absurd hn (by omega), fun _ => call_fn (fn_sanity G) fun _ => by (simp -dsimp only [↓z_put, Nat.reduceLT, ↓z_ops_plain, ↓z_assign, ↓evW_tmp, ↓lkW_cons, ↓reduceIte, ↓z_ops_nil, ↓z_seq_nrm, ↓z_ret, ↓z_end_rt, resLW, res1W, ↓z_coeL_cons, ↓z_coeL_nil, ↓z_pack1, ↓z_coe_bool, and_self]); (try simp only [Int.toNat_natCast, Nat.mul_one, Bool.or_false, Bool.false_or, Bool.or_self, Bool.or_true])⟩
end Go.Abs

