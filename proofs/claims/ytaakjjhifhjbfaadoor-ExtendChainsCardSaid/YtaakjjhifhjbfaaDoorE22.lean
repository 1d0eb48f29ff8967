/-
  EXTEND, twenty-first walks: the law about chains.
-/
import Derived.Test.YtaakjjhifhjbfaaDoorE17
namespace Go.Abs
open Go.Proofs
theorem xt_P {l : List Xt} : ∀ d ∈ List.flatMap xtC l, isP d = true := by
  intro d hd
  obtain ⟨x, _, hx⟩ := List.mem_flatMap.1 hd
  rw [xt_eq] at hx
  simp only [List.mem_cons, List.mem_map] at hx
  rcases hx with rfl | rfl | rfl | rfl | rfl | rfl | ⟨b, _, rfl⟩ <;> rfl
theorem xt_allP (l : List Xt) : allP (List.flatMap xtC l) = True := eq_true xt_P
theorem xt_nmC (id : Nat) (l : List Xt) : nmC id (List.flatMap xtC l) = True := eq_true fun d hd => by
  have := xt_P d hd
  cases d <;> first | rfl | (simp [isP] at this)
theorem xt_nmRL (a : Nat) (l : List Xt) : nmRL a (List.flatMap xtC l) = True := eq_true fun d hd => nmR_P (xt_P d hd)
theorem gF_p {c : Cn} {more : List Nat} {a : Nat} : ∀ k, ∀ x ∈ (gF c more a k).1, ∃ j, x.p = plK c more j
  | 0, x, hx => by cases hx
  | k + 1, x, hx => by
    unfold gF at hx
    split at hx
    · exact gF_p k x hx
    · rcases List.mem_append.1 hx with h | h
      · exact gF_p k x h
      · simp only [List.mem_singleton] at h; subst h; exact ⟨k, rfl⟩
theorem lawC_bal {c : Cn} {t u : Int} {i : Nat} {h : Int} (hc : okC c) (hs : h ∈ c.hs) : Fn GH Tryd.prog 13 [.agg [.sl 1 c.hs.length (c.hs.map (D.int .i64)), .sl 1 c.ss.length (c.ss.map D.str), .int .i64 c.nd, .int .i64 c.bd], .agg [.int .i64 7, .int .i64 t, .int .i64 u, .int .i64 t, .sl 19 (chP c t u i).v.length (List.flatMap blC (chP c t u i).v)], .int .i64 h, .int .i64 t, .bool true] (.agg (blC (blt c ⟨7, t, u, t, []⟩ h t true))) :=
  ((fn_ballot c (chP c t u i) h t true).inp rfl).out (by rw [bal_blt hc (seat_mem.2 hs)]; rfl)
theorem chP_len (c : Cn) (t u : Int) (i : Nat) : (chP c t u i).v.length ≤ c.hs.length := by
  unfold chP; rw [List.length_map, List.length_take]; omega
theorem lawC_vote {c : Cn} {t u : Int} {i : Nat} (h : rgtP c (chP c t u i)) (hi : i < c.hs.length) :
    Fn GH Tryd.prog 12 [.agg [.sl 1 c.hs.length (c.hs.map (D.int .i64)), .sl 1 c.ss.length (c.ss.map D.str), .int .i64 c.nd, .int .i64 c.bd], .agg [.int .i64 7, .int .i64 t, .int .i64 u, .int .i64 t, .sl 19 (chP c t u i).v.length (List.flatMap blC (chP c t u i).v)], .agg (blC (blt c ⟨7, t, u, t, []⟩ c.hs[i] t true))] (.tup [.agg [.int .i64 7, .int .i64 t, .int .i64 u, .int .i64 t, .sl 19 (chP c t u (i + 1)).v.length (List.flatMap blC (chP c t u (i + 1)).v)], .int .i64 0]) :=
  ((fn_Vote c (chP c t u i) _ (by have := chP_len c t u i; have := h.1.1.2.1; omega)).inp rfl).out (by rw [(chP_add h hi).1, (chP_add h hi).2.1]; rfl)
set_option maxRecDepth 100000 in
set_option maxHeartbeats 900000 in
theorem fn_LawC (c : Cn) (more : List Int) (skip : Int) : Fn GH Tryd.prog 4 [.agg (cnC c), .sl 1 more.length (more.map (D.int .u16)), .int .u8 skip] (.bool true) := by
  have hF := fn_Few GH c
  have hC := fn_Check GH c
  have hVf := fun l h1 h2 => fn_Verify c l h1 h2
  unfold cnC at *
  refine Fn.mk (c := _) Tryd.func4 rfl rfl Tryd.ntmps4 Tryd.results4 ?_
  (simp -dsimp only [bodyW, List.length_cons, List.length_nil, Nat.zero_add, Nat.reduceAdd, Nat.reduceLeDiff, wfL, ↓z_seq, ↓z_region, ↓z_ops_plain, ↓z_box, ↓evW_tmp, ↓z_lk_env, ↓reduceIte, ↓z_cl_agg, ↓z_nmC_cons, ↓z_mn'_sl, ↓z_mn'_int, ↓z_nmC_nil, and_self, ↓z_new, ↓z_nm_nil, Nat.reduceLT, ↓z_pg_env, ↓z_mn_agg, ↓z_mn_sl, ↓z_mn_int, ↓z_pg_env0, ↓z_put, ↓z_assign, ↓evW_const, ↓constW_bool, ↓z_ops_nil, ↓z_seq_nrm, ↓z_callv, ↓evW_func, ↓z_evL_nil, ↓z_fun0, ↓z_coeL_nil, true_and])
  intro _ w1 w2
  refine call_fnL fn_sanity rfl fun _ => ?_
  (simp -dsimp only [↓z_put, Nat.reduceLT, ↓z_ops_plain, ↓z_assign, ↓evW_tmp, ↓lkW_cons, ↓reduceIte, ↓z_ops_nil, ↓z_seq_nrm, ↓z_seq, ↓z_region, ↓z_move, ↓z_unOp, ↓z_un_not, ↓z_ops_guard, ↓z_grd, ↓z_dst_s, ↓z_dst_0, ↓z_grdD_b, ↓z_gnf, ↓z_gtt, ↓z_load, Nat.reduceEqDiff, ↓y_ty25, ↓y_sz25, ↓z_agTy_st, ↓loadW_ptr, ↓lkoW_cons, ↓z_rd_t, Nat.zero_add, List.length_cons, List.length_nil, Nat.reduceAdd, Nat.reduceLeDiff, ↓z_sub_c, ↓z_sub_nil, ↓z_gff, ↓z_callv, ↓evW_func, ↓z_evL_cons, ↓z_evL_nil, ↓z_fun0, ↓z_coeL_cons, ↓z_coe_oag, ↓z_coeC_cons, ↓z_coeS_sl, ↓z_coeS_int, ↓z_coeC_nil, ↓z_coeL_nil, true_and])
  refine call_fnL hF rfl fun _ => ?_
  (simp -dsimp only [↓z_put, Nat.reduceLT, ↓z_ops_guard, ↓z_grd, ↓z_dst_s, ↓z_dst_0, ↓lkW_cons, Nat.reduceEqDiff, ↓reduceIte, ↓z_grdD_b, ↓z_gff, ↓z_unOp, ↓evW_tmp, ↓z_un_not, ↓z_ops_plain, ↓z_pick, ↓z_pick_b, ↓z_gft, ↓z_move, ↓z_gnf, ↓z_gdt, ↓z_load, ↓y_ty25, ↓y_sz25, ↓z_agTy_st, ↓loadW_ptr, ↓lkoW_cons, ↓z_rd_t, Nat.zero_add, List.length_cons, List.length_nil, Nat.reduceAdd, Nat.reduceLeDiff, ↓z_sub_c, ↓z_sub_nil, ↓z_callv, ↓evW_func, ↓z_evL_cons, ↓z_evL_nil, ↓z_fun0, ↓z_coeL_cons, ↓z_coe_oag, ↓z_coeC_cons, ↓z_coeS_sl, ↓z_coeS_int, ↓z_coeC_nil, ↓z_coeL_nil, true_and, ↓z_gnt, ↓evW_const, ↓constW_bool, ↓z_gtf, ↓z_ops_nil, ↓z_seq_nrm, ↓z_cond, ↓z_cnd, ↓z_gtt, ↓z_seq, ↓z_region, ↓z_assign, ↓z_ret, ↓z_seq_rt, ↓z_end_rt, resLW, res1W, Bool.not_false, Bool.not_true, ↓z_pack1, ↓z_coe_bool, and_self, z_ite])
  refine ⟨fun _ => ?_, fun _ => trivial⟩
  refine call_fnL hC rfl fun _ => ?_
  by_cases c0 : chkC c = 0
  rotate_left 1
  · (simp -dsimp only [↓z_put, Nat.reduceLT, ↓z_ops_guard, ↓z_grd, ↓z_dst_s, ↓z_dst_0, ↓lkW_cons, Nat.reduceEqDiff, ↓reduceIte, ↓z_grdD_b, ↓z_gff, ↓z_binOp, ↓evW_tmp, ↓evW_const, ↓constW_int, inR_i64, Int.reduceNeg, Int.reduceLE, and_self, ↓z_bn_neq, ↓z_ops_plain, ↓z_pick, ↓z_pick_b, ↓z_gft, ↓z_move, ↓z_gdf, ne_eq, c0, not_false_eq_true, ↓z_gnf, ↓z_gnt, ↓constW_bool, ↓z_ops_nil, ↓z_seq_nrm, ↓z_cond, ↓z_cnd, ↓z_gtt, ↓z_seq, ↓z_region, ↓z_assign, ↓z_ret, ↓z_seq_rt, ↓z_end_rt, resLW, res1W, Bool.not_false, Bool.not_true, Nat.zero_add, Nat.reduceAdd, ↓z_coeL_cons, ↓z_coeL_nil, ↓z_pack1, ↓z_coe_bool]); (try simp only [Int.toNat_natCast, Nat.mul_one, Bool.or_false, Bool.false_or, Bool.or_self, Bool.or_true])
  have hc : okC c := chkC_0.1 c0
  have hb := hc.1.2.2.2.2.2
  have hn3 : c.hs.length ≤ 12 := hc.1.2.1
  (simp -dsimp only [↓z_put, Nat.reduceLT, ↓z_ops_guard, ↓z_grd, ↓z_dst_s, ↓z_dst_0, ↓lkW_cons, Nat.reduceEqDiff, ↓reduceIte, ↓z_grdD_b, ↓z_gff, ↓z_binOp, ↓evW_tmp, ↓evW_const, ↓constW_int, inR_i64, Int.reduceNeg, Int.reduceLE, and_self, ↓z_bn_neq, ↓z_ops_plain, ↓z_pick, ↓z_pick_b, ↓z_gft, ↓z_move, ↓z_gdf, c0, ne_eq, not_true_eq_false, reduceCtorEq, Nat.zero_add, ↓z_callb, ↓z_evL_cons, ↓z_evL_nil, ↓z_len, ↓y_ty48, ↓z_ln_sl, ↓z_bn_gtr, ↓z_ops_nil, ↓z_seq_nrm, ↓z_cond, ↓z_cnd, ↓z_gdt, ↓z_seq, ↓z_region, ↓z_assign, ↓z_ret, ↓z_seq_rt, ↓z_end_rt, resLW, res1W, Bool.not_true, Nat.reduceAdd, ↓z_coeL_cons, ↓z_coeL_nil, ↓z_pack1, ↓z_coe_bool, ↓z_skip, ↓constW_nils, ↓z_alloc, ↓y_zr39, ↓z_new, ↓z_nm_cons, ↓z_nmC_cons, ↓z_mn'_sl, ↓z_mn'_int, ↓z_nmC_nil, ↓z_nm_nil, ↓z_pg_cons, ↓z_mn_nils, ↓z_mn_bool, ↓z_mn_int, ↓z_mn_sl, ↓z_mn_oag, ↓z_mnL_sl, ↓z_mnL_int, ↓z_mnL_nil, ↓z_mn_ptr, ↓z_mn_agg, ↓z_pg_nil, ↓z_block, ↓z_loop, true_and, z_ite])
  refine ⟨fun _ => trivial, fun h5 => ?_⟩
  have r2 : 0 ≤ skip ∧ skip ≤ 255 := w2.1
  have hmo : ∀ (k : Nat) (h : k < more.length), 0 ≤ more[k] ∧ more[k] ≤ 65535 := fun k h => (w1.2 (.int .u16 more[k]) (List.mem_map_of_mem (List.getElem_mem h))).1
  obtain ⟨mN, eN⟩ : ∃ mN, more.map Int.toNat = mN := ⟨_, rfl⟩
  have eK : ∀ (k : Nat) (h : k < more.length), lastF c mN (k + 1) = lastF c mN k + 1 + (more[k]).tmod c.bd := fun k h => by
    have := hmo k h
    show lastF c mN k + 1 + ((mN.getD k 0 : Nat) : Int).tmod c.bd = _
    rw [← eN, getD_at (by rw [List.length_map]; exact h), List.getElem_map, Int.toNat_of_nonneg this.1]
  refine hold_intro ⟨[(8, 22)], Nat, fun k => ⟨212, 3, [(11, .int .i64 k), (10, .int .i64 (lastF c mN k)), (9, .ptr 1 0), (8, .osl 2 22 k), (3, .ptr 0 0), (2, .int .u8 skip), (1, .sl 1 more.length (more.map (D.int .u16)))],
    [(2, List.flatMap xtC (lF c mN k)), (1, (chF c mN k).map bD), (0, [.sl 1 c.hs.length (c.hs.map (D.int .i64)), .sl 1 c.ss.length (c.ss.map D.str), .int .i64 c.nd, .int .i64 c.bd])]⟩, fun k => k ≤ more.length ∧ lastF c mN k ≤ 1000000, fun k => more.length - k, ?_, ?_⟩
  · (simp -dsimp only [↓z_ad_cons, Nat.reduceLT, ↓lkW_cons, Nat.reduceEqDiff, ↓reduceIte, ↓z_nm_cons, ↓z_nmC_cons, ↓z_mn'_int, ↓z_nmC_nil, and_self, ↓z_mn'_sl, ↓z_nm_nil, Nat.zero_add, Nat.reduceAdd, ↓z_pg_cons, ↓z_mn_int, ↓z_mn_ptr, ↓z_mn_nils, ↓z_mn_bool, ↓z_mn_sl, ↓z_mn_oag, ↓z_mnL_sl, ↓z_mnL_int, ↓z_mnL_nil, reduceCtorEq, ↓z_mn_agg, ↓z_pg_nil, ↓z_ad_nil, ↓z_wk, ↓z_wkE_cons, D.int.injEq, true_and, D.osl.injEq, ↓z_wkE_nil, and_true, ↓z_wkO_cons, ↓lkoW_cons, ↓z_wkO_nil]); (try simp only [Int.toNat_natCast, Nat.mul_one, Bool.or_false, Bool.false_or, Bool.or_self, Bool.or_true])
    exact ⟨0, ⟨Nat.zero_le _, show (10 : Int) ≤ 1000000 by decide⟩, ⟨rfl, rfl, rfl⟩, rfl, rfl⟩
  rintro k ⟨hk, hU⟩
  have hl10 := lastF_le hc mN k
  by_cases h : k < more.length
  · have hlt : ((k : Int) < more.length) = True := eq_true (by omega)
    have hm := hmo k h
    have hs := lastF_s hc mN k
    have ek := eK k h
    (simp -dsimp only [↓z_seq, ↓z_region, ↓z_ops_plain, ↓z_move, ↓evW_tmp, ↓lkW_cons, ↓reduceIte, ↓z_put, Nat.reduceLT, Nat.reduceEqDiff, ↓z_callb, ↓z_evL_cons, ↓z_evL_nil, ↓z_len, ↓y_ty48, ↓z_ln_sl, ↓z_binOp, ↓z_bn_lss, ↓z_ops_nil, ↓z_seq_nrm, ↓z_cond, ↓z_cnd, ↓z_gdt, hlt, ↓z_skip, ↓z_block, ↓z_region_d, ↓y_mix, true_and]); (try simp only [Int.toNat_natCast, Nat.mul_one, Bool.or_false, Bool.false_or, Bool.or_self, Bool.or_true])
    refine rgn_d (by decide +kernel) ?_
    (simp -dsimp only [↓z_drw_move, ↓z_drwS, ↓z_grd_none, ↓z_withE, ↓z_rd_tmp, ↓lkW_cons, Nat.reduceEqDiff, ↓reduceIte, ↓z_rd_nil, ↓z_ap_cons, ↓z_ap_nil, ↓z_or_move, ↓z_move, ↓evW_tmp, and_true, ↓z_exD_all, ↓z_exD_eq, ↓z_put, Nat.reduceLT, ↓z_drwK, ↓z_drw_binOp, ↓z_rd_const, ↓z_or_binOp, ↓z_binOp, ↓evW_const, ↓constW_int, inR_i64, Int.reduceNeg, Int.reduceLE, and_self, ↓z_bn_add, ↓wrW_i64, true_and, ↓z_exD_and, ↓z_drw_indexAddr, ↓z_or_indexAddr, ↓z_indexAddr, ↓y_ty48, ↓z_elTy_sl, ↓y_sz50, ↓z_ix_sl, Nat.mul_one, ↓z_drw_load, ↓z_or_load, ↓z_load, ↓y_ty50, ↓z_agTy_int, ↓loadW_rop, ↓z_rd_f, ↓z_nth_int, ↓z_exD_ex, ↓z_drw_convert, ↓z_or_convert, ↓y_ty3, ↓z_cvR_int, ↓z_convert, ↓z_cvt_int, ↓z_cv_int, ↓z_cvi_u16_i64, ↓z_drw_fieldAddr, ↓z_or_fieldAddr, ↓z_fieldAddr, ↓y_fl25x3, ↓y_sz3, ne_eq, reduceCtorEq, not_false_eq_true, ↓z_fa_ptr, Nat.zero_add, ↓loadW_ptr, ↓lkoW_cons, ↓nthW_cons, Nat.reduceSub, ↓z_bn_rem, ↓z_rem_i64, ↓z_drw_assign, ↓z_or_assign, ↓z_assign, ↓z_drw_nil, ↓z_seq_nrm, ↓z_seq, ↓z_region, ↓z_ops_plain, ↓z_bn_gtr, ↓z_ops_nil, ↓z_cond, ↓z_cnd, ↓z_gdt, ↓constW_bool, ↓z_ret, ↓z_seq_rt, ↓z_blk_rt, ↓z_lp_rt, ↓z_end_rt, resLW, res1W, ↓z_coeL_cons, ↓z_coeL_nil, ↓z_pack1, ↓z_coe_bool, ↓z_skip, ↓y_ty25, ↓y_sz25, ↓z_agTy_st, ↓z_rd_t, List.length_cons, List.length_nil, Nat.reduceAdd, Nat.reduceLeDiff, ↓z_sub_c, ↓z_sub_nil, ↓z_callv, ↓evW_func, ↓z_evL_cons, ↓z_evL_nil, ↓z_fun0, ↓z_coe_oag, ↓z_coeC_cons, ↓z_coeS_sl, ↓z_coeS_int, ↓z_coeC_nil, ↓z_coe_int, z_ite]); (try simp only [Int.toNat_natCast])
    refine ⟨by omega, by omega, by omega, h, by omega, by omega, fun _ => trivial, fun g => ?_⟩
    have hrg := chP_rgt hc (t := lastF c mN k) (u := lastF c mN (k + 1)) (by omega) hs.1 (by omega) hs.2
    have hO := fn_Open c 7 (lastF c mN k) (lastF c mN (k + 1)) (lastF c mN k)
    have hfr : frmP c ⟨7, lastF c mN k, lastF c mN (k + 1), lastF c mN k, []⟩ := (hrg 0 (Nat.zero_le _)).2.1
    rw [(op_yes hc hfr).1, (op_yes hc hfr).2] at hO
    unfold cnC plC at hO
    rw [ek] at hO
    refine call_fn hO fun _ => ?_
    (simp -dsimp only [↓z_put, Nat.reduceLT, ↓z_ops_plain, ↓z_move, ↓evW_tmp, ↓lkW_cons, ↓reduceIte, ↓z_extract, ↓z_ex, ↓nthW_cons, Nat.reduceEqDiff, reduceCtorEq, Nat.reduceSub, ↓z_alloc, ↓y_zr34, ↓z_new, ↓z_nm_cons, xt_nmC, ↓z_nmC_bytes, ↓z_nmC_cons, ↓z_mn'_sl, ↓z_mn'_int, ↓z_nmC_nil, and_self, ↓z_nm_nil, ↓z_pg_cons, ↓z_mn_int, ↓z_mn_agg, ↓z_mn_tup, ↓z_mn_oag, ↓z_mnL_sl, ↓z_mnL_int, ↓z_mnL_nil, ↓z_mn_bool, ↓z_mn_ptr, ↓z_mn_rop, ↓z_mn_sl, ↓z_mn_osl, ↓z_pg_nil, ↓z_store, ↓y_sz34, ↓z_cl_agg, List.length_nil, List.length_cons, Nat.zero_add, Nat.reduceAdd, ↓z_store_ptr, ↓lkoW_cons, Nat.reduceLeDiff, ↓spsW_cons, ↓drW_cons, ↓drW_nil, ↓z_cat_nil_r, ↓z_so_cons, ↓z_put_none, ↓z_assign, ↓z_ops_nil, ↓z_seq_nrm, ↓z_seq, ↓z_region, ↓z_binOp, ↓evW_const, ↓constW_int, inR_i64, Int.reduceNeg, Int.reduceLE, ↓z_bn_neq, ↓z_cond, ↓z_cnd, ↓z_gdt, ne_eq, not_true_eq_false, ↓z_skip, ↓z_block, ↓z_loop, true_and])
    refine hold_intro ⟨[], Nat, fun i => ⟨212, 4, [(15, .int .i64 i), (13, .ptr 3 0), (12, .int .i64 (lastF c mN (k + 1))), (11, .int .i64 k), (10, .int .i64 (lastF c mN k)), (9, .ptr 1 0), (8, .osl 2 22 k), (3, .ptr 0 0), (2, .int .u8 skip), (1, .sl 1 more.length (more.map (D.int .u16)))],
      [(3, [.int .i64 7, .int .i64 (lastF c mN k), .int .i64 (lastF c mN (k + 1)), .int .i64 (lastF c mN k), .sl 19 (chP c (lastF c mN k) (lastF c mN (k + 1)) i).v.length (List.flatMap blC (chP c (lastF c mN k) (lastF c mN (k + 1)) i).v)]), (2, List.flatMap xtC (lF c mN k)), (1, (chF c mN k).map bD), (0, [.sl 1 c.hs.length (c.hs.map (D.int .i64)), .sl 1 c.ss.length (c.ss.map D.str), .int .i64 c.nd, .int .i64 c.bd])]⟩, fun i => i ≤ c.hs.length, fun i => c.hs.length - i, ?_, ?_⟩
    · (simp -dsimp only [↓z_ad_nil, ↓z_wk, ↓z_wkE_cons, ↓lkW_cons, ↓reduceIte, D.int.injEq, true_and, Nat.reduceEqDiff, ↓z_wkE_nil, and_self, and_true, ↓z_wkO_cons, ↓lkoW_cons, List.length_nil, List.cons.injEq, D.sl.injEq, reduceCtorEq, ↓z_wkO_nil]); (try simp only [Int.toNat_natCast, Nat.mul_one, Bool.or_false, Bool.false_or, Bool.or_self, Bool.or_true])
      exact ⟨0, Nat.zero_le _, ⟨rfl, ek.symm⟩, ek.symm, rfl, rfl⟩
    intro i hi
    by_cases hi2 : i < c.hs.length
    · have hli : ((i : Int) < c.hs.length) = True := eq_true (by omega)
      have g1 := lawC_bal (t := (lastF c mN k)) (u := (lastF c mN (k + 1))) (i := i) hc (List.getElem_mem hi2)
      have g2 := lawC_vote (hrg i hi) hi2
      generalize blC (blt c ⟨7, (lastF c mN k), (lastF c mN (k + 1)), (lastF c mN k), []⟩ c.hs[i] (lastF c mN k) true) = BA at g1 g2
      (simp -dsimp only [↓z_seq, ↓z_region, ↓z_ops_plain, ↓z_move, ↓evW_tmp, ↓lkW_cons, ↓reduceIte, ↓z_put, Nat.reduceLT, ↓z_fieldAddr, Nat.reduceEqDiff, ↓y_fl25x0, ↓y_sz22, ne_eq, reduceCtorEq, not_false_eq_true, ↓z_fa_ptr, ↓z_load, ↓y_ty22, ↓z_agTy_sl, ↓loadW_ptr, ↓lkoW_cons, ↓z_rd_f, ↓nthW_cons, Nat.zero_add, ↓z_callb, ↓z_evL_cons, ↓z_evL_nil, ↓z_len, ↓z_ln_sl, ↓z_binOp, ↓z_bn_lss, ↓z_ops_nil, ↓z_seq_nrm, ↓z_cond, ↓z_cnd, ↓z_gdt, hli, ↓z_skip, ↓z_block, ↓z_region_d, ↓y_mix, true_and]); (try simp only [Int.toNat_natCast, Nat.mul_one, Bool.or_false, Bool.false_or, Bool.or_self, Bool.or_true])
      refine rgn_x 18 [] (by decide +kernel) ?_
      (simp -dsimp only [↓z_nmRE_cons, ↓z_nmR_bool, ↓z_nmR_int, ↓z_nmR_sl, ↓z_nmR_ptr, Nat.reduceLT, Nat.reduceLeDiff, or_false, ↓z_nmR_osl, ↓z_nmRE_nil, and_self, ↓z_nmRO_cons, ↓z_nmRL_cons, ↓z_nmRL_nil, xt_nmRL, ↓z_nmRL_byte, ↓z_nmRO_nil, ↓z_splitO_cons, List.not_mem_nil, ↓reduceIte, ↓z_splitO_nil, List.take_succ_cons, List.take_zero, Nat.zero_add, List.drop_succ_cons, List.drop_zero, ↓z_seq, ↓z_region, ↓z_ops_plain, ↓z_move, ↓z_binOp, ↓evW_const, ↓constW_int, inR_i64, Int.reduceNeg, Int.reduceLE, ↓z_ops_nil, ↓z_seq_nrm, ↓z_cond, ↓z_assign, ↓constW_bool, ↓z_ret, ↓z_seq_rt, ↓z_blk_rt, ↓z_lp_rt, ↓z_end_rt, resLW, res1W, ↓z_coeL_cons, ↓z_coeL_nil, ↓z_pack1, ↓z_skip, ↓z_load, ↓y_ty34, ↓y_sz34, ↓z_agTy_st, ↓z_store, ↓z_put_none, ↓z_blk_nrm, ↓z_lp_nrm, true_and, ↓y_ty25, ↓y_sz25, ↓z_callv, ↓evW_func, ↓z_evL_cons, ↓z_evL_nil, ↓z_fun0, ↓z_block, ↓z_loop, ↓evW_tmp, ↓z_put, ↓lkW_cons, ↓z_coe_bool, D.bool.injEq, reduceCtorEq, and_false, Nat.reduceEqDiff, ↓z_drx_load, ↓z_drxS, ↓z_grd_none, ↓z_withE, ↓z_rd_tmp, ↓z_rd_nil, ↓z_ap_cons, ↓z_ap_nil, ↓z_apO_cons, ↓z_apO_nil, ↓z_or_load, ↓loadW_ptr, ↓lkoW_cons, ↓z_rd_t, List.length_cons, List.length_nil, Nat.reduceAdd, ↓z_sub_c, ↓z_sub_nil, and_true, ↓z_exD_all, ↓z_exD_all2, ↓z_exD_eq, ↓z_nmR_oag, ↓z_nmRS_sl, ↓z_nmRS_int, ↓z_nmRS_nil, ↓z_drxK, ↓z_drx_fieldAddr, ↓z_or_fieldAddr, ↓z_fieldAddr, ↓y_fl25x0, ↓y_sz22, ne_eq, not_false_eq_true, ↓z_fa_ptr, ↓y_ty22, ↓z_agTy_sl, ↓z_rd_f, ↓nthW_cons, ↓z_drx_move, ↓z_or_move, ↓z_drx_indexAddr, ↓z_or_indexAddr, ↓z_indexAddr, ↓z_elTy_sl, ↓y_sz3, ↓z_ix_sl, Nat.mul_one, ↓z_exD_and, ↓z_nmR_rop, ↓y_ty3, ↓z_agTy_int, ↓loadW_rop, ↓z_nth_int, ↓z_exD_ex, ↓z_drx_callv]); (try simp only [Int.toNat_natCast])
      refine ⟨by omega, by omega, hi2, cv_ex ?_⟩
      (simp -dsimp only [↓z_drxA_callv, ↓z_grd_none, ↓z_withE, ↓z_rd_func, ↓z_rd_tmp, ↓lkW_cons, Nat.reduceEqDiff, ↓reduceIte, ↓z_rd_const, ↓z_rd_nil]); (try simp only [Int.toNat_natCast, Nat.mul_one, Bool.or_false, Bool.false_or, Bool.or_self, Bool.or_true])
      refine ex_mk (.agg BA) (fun E X => by
        (simp -dsimp only [↓z_ap_cons, ↓z_ap_nil, ↓z_apO_cons, ↓z_apO_nil, ↓z_callv, ↓evW_func, ↓z_evL_cons, ↓evW_tmp, ↓lkW_cons, ↓reduceIte, Nat.reduceEqDiff, ↓evW_const, ↓constW_bool, ↓z_evL_nil, ↓z_fun0, ↓z_coeL_cons, ↓z_coe_oag, ↓z_coeC_cons, ↓z_coeS_sl, ↓z_coeS_int, ↓z_coeC_nil, ↓z_coe_int, ↓z_coe_bool, ↓z_coeL_nil]); (try simp only [Int.toNat_natCast, Nat.mul_one, Bool.or_false, Bool.false_or, Bool.or_self, Bool.or_true])
        exact call_fn g1 fun _ => ⟨rfl, rfl⟩) ?_
      (simp -dsimp only [↓z_nmR_agg, ↓z_put, Nat.reduceLT, ↓z_drxK, ↓z_drx_callv, true_and]); (try simp only [Int.toNat_natCast, Nat.mul_one, Bool.or_false, Bool.false_or, Bool.or_self, Bool.or_true])
      refine cv_ex ?_
      (simp -dsimp only [↓z_drxA_callv, ↓z_grd_none, ↓z_withE, ↓z_rd_func, ↓z_rd_tmp, ↓lkW_cons, Nat.reduceEqDiff, ↓reduceIte, ↓z_rd_nil]); (try simp only [Int.toNat_natCast, Nat.mul_one, Bool.or_false, Bool.false_or, Bool.or_self, Bool.or_true])
      refine ex_mk (.tup [.agg [.int .i64 7, .int .i64 (lastF c mN k), .int .i64 (lastF c mN (k + 1)), .int .i64 (lastF c mN k), .sl 19 (chP c (lastF c mN k) (lastF c mN (k + 1)) (i + 1)).v.length (List.flatMap blC (chP c (lastF c mN k) (lastF c mN (k + 1)) (i + 1)).v)], .int .i64 0]) (fun E X => by
        (simp -dsimp only [↓z_ap_cons, ↓z_ap_nil, ↓z_apO_cons, ↓z_apO_nil, ↓z_callv, ↓evW_func, ↓z_evL_cons, ↓evW_tmp, ↓lkW_cons, ↓reduceIte, Nat.reduceEqDiff, ↓z_evL_nil, ↓z_fun0, ↓z_coeL_cons, ↓z_coe_oag, ↓z_coeC_cons, ↓z_coeS_sl, ↓z_coeS_int, ↓z_coeC_nil, ↓z_coe_agg, ↓z_coeL_nil]); (try simp only [Int.toNat_natCast, Nat.mul_one, Bool.or_false, Bool.false_or, Bool.or_self, Bool.or_true])
        exact call_fn g2 fun _ => ⟨rfl, rfl⟩) ?_
      (simp -dsimp only [↓z_nmR_tup, ↓z_put, Nat.reduceLT, ↓z_drxK, ↓z_drx_move, ↓z_drxS, ↓z_grd_none, ↓z_withE, ↓z_rd_tmp, ↓lkW_cons, ↓reduceIte, ↓z_rd_nil, ↓z_ap_cons, ↓z_ap_nil, ↓z_apO_cons, ↓z_apO_nil, ↓z_or_move, ↓z_move, ↓evW_tmp, and_true, ↓z_exD_all, ↓z_exD_all2, ↓z_exD_eq, ↓z_drx_extract, ↓z_or_extract, ↓z_extract, ↓z_ex, ↓nthW_cons, ↓z_nmR_agg, Nat.reduceEqDiff, reduceCtorEq, Nat.reduceSub, ↓z_nmR_int, ↓z_drx_alloc, ↓y_zr34, ↓z_nmRL_cons, ↓z_nmR_nils, ↓z_nmRL_nil, and_self, ↓z_drx_store, ↓z_ptX, ↓z_noW_nil, ↓z_alW_cons, true_implies, ↓z_alW_nil, ↓y_sz34, ↓z_cl_agg, List.length_cons, List.length_nil, Nat.zero_add, Nat.reduceAdd, ↓z_nmR_sl, ↓lkoW_cons, Nat.reduceLeDiff, ↓z_spl, ↓spsW_cons, ↓drW_cons, ↓drW_nil, ↓z_cat_nil_r, ↓z_so_cons, ↓z_drx_assign, ↓z_or_assign, ↓z_assign, ↓z_drx_nil, ↓z_bn_neq, ↓z_cnd, ↓z_gdt, ne_eq, not_true_eq_false, ↓loadW_ptr, ↓z_rd_t, ↓z_sub_c, ↓z_sub_nil, ↓z_cl_oag, ↓z_store_ptr, ↓z_bn_add, ↓wrW_i64, inR_i64, Int.reduceNeg, ↓z_wk, ↓z_wkE_cons, D.int.injEq, true_and, ↓z_wkE_nil, ↓z_wkO_cons, List.cons.injEq, D.sl.injEq, ↓z_wkO_nil]); (try simp only [Int.toNat_natCast, Nat.mul_one, Bool.or_false, Bool.false_or, Bool.or_self, Bool.or_true])
      exact ⟨by omega, i + 1, by omega, by omega, by omega, rfl, rfl⟩
    · have hli : ((i : Int) < c.hs.length) = False := eq_false (by omega)
      have ei : i = c.hs.length := by omega
      subst ei
      (simp -dsimp only [↓z_seq, ↓z_region, ↓z_ops_plain, ↓z_move, ↓evW_tmp, ↓lkW_cons, ↓reduceIte, ↓z_put, Nat.reduceLT, ↓z_fieldAddr, Nat.reduceEqDiff, ↓y_fl25x0, ↓y_sz22, ne_eq, reduceCtorEq, not_false_eq_true, ↓z_fa_ptr, ↓z_load, ↓y_ty22, ↓z_agTy_sl, ↓loadW_ptr, ↓lkoW_cons, ↓z_rd_f, ↓nthW_cons, Nat.zero_add, ↓z_callb, ↓z_evL_cons, ↓z_evL_nil, ↓z_len, ↓z_ln_sl, ↓z_binOp, ↓z_bn_lss, ↓z_ops_nil, ↓z_seq_nrm, ↓z_cond, ↓z_cnd, ↓z_gdt, hli, ↓z_exit, ↓z_seq_ext, ↓z_lp_ext, ↓z_blk_ext, ↓y_ty25, ↓y_sz25, ↓z_agTy_st, ↓z_rd_t, List.length_cons, List.length_nil, Nat.reduceAdd, Nat.reduceLeDiff, ↓z_sub_c, ↓z_sub_nil, ↓y_ty34, ↓y_sz34, ↓z_callv, ↓evW_func, ↓z_fun0, ↓z_coeL_cons, ↓z_coe_oag, ↓z_coeC_cons, ↓z_coeS_sl, ↓z_coeS_int, ↓z_coeC_nil, ↓z_coe_int, ↓z_coeL_nil, true_and]); (try simp only [Int.toNat_natCast, Nat.mul_one, Bool.or_false, Bool.false_or, Bool.or_self, Bool.or_true])
      have hD := fn_Decide c (chP c (lastF c mN k) (lastF c mN (k + 1)) c.hs.length) (lastF c mN k) (by have := chP_len c (lastF c mN k) (lastF c mN (k + 1)) c.hs.length; omega)
      have hdd := chM_dec (hrg _ (Nat.le_refl _))
      unfold chM at hdd
      rw [hdd.1, hdd.2] at hD
      unfold cnC plC at hD
      have hR : Fn GH Tryd.prog 16 [.agg ((chF c mN k).map bD), .agg [.int .i64 7, .int .i64 (lastF c mN k), .int .i64 (lastF c mN (k + 1)), .int .i64 (lastF c mN k), .sl 19 (chP c (lastF c mN k) (lastF c mN (k + 1)) c.hs.length).v.length (List.flatMap blC (chP c (lastF c mN k) (lastF c mN (k + 1)) c.hs.length).v)], .int .i64 (lastF c mN k)] (.agg ((chF c mN (k + 1)).map bD)) := (fn_Record (chF c mN k) (chF_len c mN k) (chP c (lastF c mN k) (lastF c mN (k + 1)) c.hs.length) (lastF c mN k) (by have := chP_len c (lastF c mN k) (lastF c mN (k + 1)) c.hs.length; omega)).inp rfl
      have lf := chF_len c mN k
      have lf2 := chF_len c mN (k + 1)
      have ef : List.take 16 (chF c mN k) = chF c mN k := List.take_of_length_le (by omega)
      refine call_fnL hD (by intro d hd; simp at hd; rcases hd with rfl | rfl <;> rfl) fun _ => ?_
      (simp -dsimp only [↓z_put, Nat.reduceLT, ↓z_ops_plain, ↓z_move, ↓evW_tmp, ↓lkW_cons, ↓reduceIte, ↓z_extract, ↓z_ex, ↓nthW_cons, Nat.reduceEqDiff, reduceCtorEq, Nat.reduceSub, ↓z_assign, ↓z_ops_nil, ↓z_seq_nrm, ↓z_seq, ↓z_region, ↓z_binOp, ↓evW_const, ↓constW_int, inR_i64, Int.reduceNeg, Int.reduceLE, and_self, ↓z_bn_neq, ↓z_ops_guard, ↓z_grd, ↓z_dst_s, ↓z_dst_0, ↓z_grdD_b, ↓z_gdf, ne_eq, not_true_eq_false, ↓z_gff, ↓z_pick, ↓z_pick_b, ↓z_gft, ↓z_cond, ↓z_cnd, ↓z_gdt, ↓z_skip, ↓z_load, ↓y_ty39, ↓y_sz39, ↓z_agTy_arr, ↓loadW_ptr, ↓lkoW_cons, ↓z_rd_t, Nat.zero_add, List.length_map, ↓z_sub_map, ↓y_ty34, ↓y_sz34, ↓z_agTy_st, List.length_cons, List.length_nil, Nat.reduceAdd, Nat.reduceLeDiff, ↓z_sub_c, ↓z_sub_nil, ↓z_callv, ↓evW_func, ↓z_evL_cons, ↓z_evL_nil, ↓z_fun0, ↓z_coeL_cons, ↓z_coe_oag, ↓z_coeC_bytes, ↓z_coeC_cons, ↓z_coeS_int, ↓z_coeS_sl, ↓z_coeC_nil, ↓z_coe_int, ↓z_coeL_nil, true_and]); (try simp only [Int.toNat_natCast, Nat.mul_one, Bool.or_false, Bool.false_or, Bool.or_self, Bool.or_true])
      refine ⟨by omega, call_fnL (hR.inp (by rw [List.drop_zero, ef])) (flS_bytes _) fun _ => ?_⟩
      (simp -dsimp only [↓z_put, Nat.reduceLT, ↓z_ops_plain, ↓z_store, ↓evW_tmp, ↓lkW_cons, Nat.reduceEqDiff, ↓reduceIte, ↓y_sz39, ↓z_cl_agg, List.length_map, ↓z_store_ptr, ↓lkoW_cons, Nat.zero_add, ↓z_sps_map, ↓z_so_cons, ↓z_put_none, ↓z_ops_nil, ↓z_seq_nrm, ↓z_seq, ↓z_region, ↓z_move, ↓z_load, ↓y_ty34, ↓y_sz34, ↓z_agTy_st, ↓loadW_ptr, ↓z_rd_t, List.length_cons, List.length_nil, Nat.reduceAdd, Nat.reduceLeDiff, ↓z_sub_c, ↓z_sub_nil, ↓y_ty39, ↓z_agTy_arr, List.take_zero, List.nil_append, List.length_append, List.length_drop, ↓z_sub_map, ↓z_build, ↓y_ty53, ↓z_blTy_st, ↓y_zr53, ↓z_bld_cons, ↓y_fl53x0, ↓z_cl_oag, ↓spsW_cons, ↓drW_cons, reduceCtorEq, Nat.reduceSub, ↓catW_cons, ↓catW_nil, ↓y_fl53x1, ↓y_sz3, ↓z_cl_int, ↓y_fl53x2, List.drop_zero, List.length_take, ↓drW_nil, ↓z_cat_nil_r, ↓z_bld_nil, ↓z_buildSlice, ↓y_ty49, ↓z_slTy, ↓y_sz53, Nat.reduceMul, maxLen_lit, ↓z_repL_s, ↓z_repL_0, Nat.zero_mul, ↓z_allP_cons, ↓z_isP_int, ↓z_isP_sl, ↓z_allP_bytes, and_self, ↓z_callb, ↓z_evL_cons, ↓z_evL_nil, ↓z_append, ↓z_nint_sl, ↓y_by53, ↓z_src_slx, ↓z_app_osl, xt_len, xt_nmC, ↓z_room, ↓z_pgo_cons, ↓z_nmC_cons, ↓z_mn'_int, ↓z_mn'_sl, ↓z_nmC_nil, ↓z_pgc_nm, ↓z_nmC_bytes, ↓z_pgo_nil, ↓z_pg_cons, ↓z_mn_slx, ↓z_mn_oag, ↓z_mnL_int, ↓z_mnL_sl, ↓z_mnL_bytes, ↓z_mn_int, ↓z_mnL_nil, ↓z_mn_osl, ↓z_mn_agg, ↓z_mn_bool, ↓z_mn_tup, ↓z_mn_sl, ↓z_mn_ptr, ↓z_pg_nil, ↓z_assign, ↓z_blk_nrm, ↓z_binOp, ↓evW_const, ↓constW_int, inR_i64, Int.reduceNeg, Int.reduceLE, ↓z_bn_add, ↓wrW_i64, ↓z_lp_nrm, ↓z_wk, ↓z_wkE_cons, D.int.injEq, true_and, D.osl.injEq, ↓z_wkE_nil, and_true, ↓z_wkO_cons, ↓z_wkO_nil]); (try simp only [Int.toNat_natCast, Nat.mul_one, Bool.or_false, Bool.false_or, Bool.or_self, Bool.or_true])
      have ed : List.drop 16 (chF c mN k) = [] := List.drop_of_length_le (by omega)
      have et : List.take 16 (chF c mN (k + 1)) = chF c mN (k + 1) := List.take_of_length_le (by omega)
      refine ⟨lf2, by omega, by omega, by rfl, by omega, by omega, by rw [lF_len], by omega, by omega, by omega, k + 1, ⟨by omega, by omega⟩, by omega, ⟨by omega, rfl, rfl⟩, ?_, ?_⟩
      · rw [ed, List.append_nil, et, lF_s, List.flatMap_append, List.flatMap_cons, List.flatMap_nil, List.append_nil, xt_eq]; rfl
      · rw [ed, List.append_nil]
  · have hlt : ((k : Int) < more.length) = False := eq_false (by omega)
    (simp -dsimp only [↓z_seq, ↓z_region, ↓z_ops_plain, ↓z_move, ↓evW_tmp, ↓lkW_cons, ↓reduceIte, ↓z_put, Nat.reduceLT, Nat.reduceEqDiff, ↓z_callb, ↓z_evL_cons, ↓z_evL_nil, ↓z_len, ↓y_ty48, ↓z_ln_sl, ↓z_binOp, ↓z_bn_lss, ↓z_ops_nil, ↓z_seq_nrm, ↓z_cond, ↓z_cnd, ↓z_gdt, hlt, ↓z_exit, ↓z_seq_ext, ↓z_lp_ext, ↓z_blk_ext, ↓z_assign, ↓evW_const, ↓constW_int, inR_i64, Int.reduceNeg, Int.reduceLE, and_self, ↓z_block, ↓z_loop, true_and]); (try simp only [Int.toNat_natCast, Nat.mul_one, Bool.or_false, Bool.false_or, Bool.or_self, Bool.or_true])
    have ek : k = more.length := by omega
    have hxl : ∀ (l : List Xt), (∀ x ∈ l, ∃ j, x.p = plK c mN j) → ∀ x ∈ l, x.p.v.length ≤ 1000 := fun l hl x hx => by
      obtain ⟨j, ej⟩ := hl x hx
      rw [ej]
      have := chP_len c (lastF c mN j) (lastF c mN (j + 1)) c.hs.length
      show (chP c _ _ c.hs.length).v.length ≤ 1000
      omega
    have hvj : ∀ j, j ≤ k → Fn GH Tryd.prog 17 [.agg [.sl 1 c.hs.length (c.hs.map (D.int .i64)), .sl 1 c.ss.length (c.ss.map D.str), .int .i64 c.nd, .int .i64 c.bd], .sl 22 j (List.take (j * 22) (List.flatMap xtC (lF c mN k)))] (.tup [.int .i64 j, .int .i64 0]) := fun j hj => by
      have h1 := hVf (lF c mN j) (by rw [lF_len]; omega) (hxl _ fun x hx => by
        unfold lF at hx
        obtain ⟨i, _, rfl⟩ := List.mem_map.1 hx
        exact ⟨i, rfl⟩)
      rw [lF_vf hc (Int.le_trans (lastF_up hc mN hj) hU), lF_len] at h1
      rw [fm_take xt_len1, lF_take hj]
      exact h1
    refine hold_intro ⟨[], Nat, fun j => ⟨212, 3, [(20, .int .i64 j), (9, .ptr 1 0), (8, .osl 2 22 k), (3, .ptr 0 0), (2, .int .u8 skip)],
      [(2, List.flatMap xtC (lF c mN k)), (1, (chF c mN k).map bD), (0, [.sl 1 c.hs.length (c.hs.map (D.int .i64)), .sl 1 c.ss.length (c.ss.map D.str), .int .i64 c.nd, .int .i64 c.bd])]⟩, fun j => j ≤ k + 1, fun j => k + 1 - j, ?_, ?_⟩
    · (simp -dsimp only [↓z_ad_nil, ↓z_wk, ↓z_wkE_cons, ↓lkW_cons, ↓reduceIte, D.int.injEq, true_and, Nat.reduceEqDiff, ↓z_wkE_nil, and_self, and_true, ↓z_wkO_cons, ↓lkoW_cons, reduceCtorEq, ↓z_wkO_nil]); (try simp only [Int.toNat_natCast, Nat.mul_one, Bool.or_false, Bool.false_or, Bool.or_self, Bool.or_true])
      exact ⟨0, Nat.zero_le _, rfl⟩
    intro j hj
    by_cases hjk : j ≤ k
    · have hlj : ((j : Int) ≤ k) = True := eq_true (by omega)
      (simp -dsimp only [↓z_seq, ↓z_region, ↓z_ops_plain, ↓z_move, ↓evW_tmp, ↓lkW_cons, ↓reduceIte, ↓z_put, Nat.reduceLT, Nat.reduceEqDiff, ↓z_callb, ↓z_evL_cons, ↓z_evL_nil, ↓z_len, ↓y_ty49, ↓z_ln_osl, ↓z_binOp, ↓z_bn_leq, ↓z_ops_nil, ↓z_seq_nrm, ↓z_cond, ↓z_cnd, ↓z_gdt, hlj, ↓z_skip, ↓z_block, ↓z_region_d, ↓y_mix, true_and]); (try simp only [Int.toNat_natCast, Nat.mul_one, Bool.or_false, Bool.false_or, Bool.or_self, Bool.or_true])
      refine rgn_d (by decide +kernel) ?_
      (simp -dsimp only [↓z_drw_load, ↓z_drwS, ↓z_grd_none, ↓z_withE, ↓z_rd_tmp, ↓lkW_cons, Nat.reduceEqDiff, ↓reduceIte, ↓z_rd_nil, ↓z_ap_cons, ↓z_ap_nil, ↓z_or_load, ↓z_load, ↓evW_tmp, ↓y_ty25, ↓y_sz25, ↓z_agTy_st, ↓loadW_ptr, ↓lkoW_cons, reduceCtorEq, ↓z_rd_t, Nat.zero_add, List.length_cons, List.length_nil, Nat.reduceAdd, Nat.reduceLeDiff, ↓z_sub_c, ↓z_sub_nil, and_true, true_and, ↓z_exD_all, ↓z_exD_eq, ↓z_put, Nat.reduceLT, ↓z_drwK, ↓z_drw_move, ↓z_or_move, ↓z_move, ↓z_drw_slice, ↓z_oLn, ↓z_oL, List.nil_append, List.append_nil, ↓z_or_slice, ↓z_slice, ↓z_evO_none, ↓z_bo_none, ↓z_evO_some, ↓y_ty49, ↓z_seTy_sl, ↓y_sz53, ↓z_bo_some, ↓z_slc_osl_nh, ↓z_exD_and, ↓z_drw_callv, ↓z_rd_func]); (try simp only [Int.toNat_natCast])
      refine ⟨by omega, by omega, ?_⟩
      refine ex_mk (.tup [.int .i64 j, .int .i64 0]) (fun E => by
        (simp -dsimp only [↓z_ap_cons, ↓z_ap_nil, ↓z_callv, ↓evW_func, ↓z_evL_cons, ↓evW_tmp, ↓lkW_cons, ↓reduceIte, Nat.reduceEqDiff, ↓z_evL_nil, ↓z_fun0, ↓z_coeL_cons, ↓z_coe_oag, ↓z_coeC_cons, ↓z_coeS_sl, ↓z_coeS_int, ↓z_coeC_nil, ↓z_coe_osw, ↓lkoW_cons, Nat.zero_add, ↓z_coeL_nil, z_sub]); (try simp only [Int.toNat_natCast, Nat.mul_one, Bool.or_false, Bool.false_or, Bool.or_self, Bool.or_true])
        refine ⟨of_eq_true (xt_allP _), by rw [xt_len, lF_len]; omega, ?_⟩
        exact call_fnL ((hvj j hjk).inp (by rw [List.drop_zero])) (by intro d hd; simp at hd; rcases hd with rfl | rfl <;> rfl) fun _ => ⟨rfl, rfl⟩) ?_
      (simp -dsimp only [↓z_put, Nat.reduceLT, ↓z_drwK, ↓z_drw_move, ↓z_drwS, ↓z_grd_none, ↓z_withE, ↓z_rd_tmp, ↓lkW_cons, ↓reduceIte, ↓z_rd_nil, ↓z_ap_cons, ↓z_ap_nil, ↓z_or_move, ↓z_move, ↓evW_tmp, and_true, ↓z_exD_all, ↓z_exD_eq, ↓z_drw_extract, ↓z_or_extract, ↓z_extract, ↓z_ex, ↓nthW_cons, Nat.reduceEqDiff, reduceCtorEq, Nat.reduceSub, ↓z_drw_assign, ↓z_or_assign, ↓z_assign, ↓z_drw_nil, ↓z_seq_nrm, ↓z_seq, ↓z_region, ↓z_ops_plain, ↓z_binOp, ↓z_bn_neq, ↓z_ops_guard, ↓z_grd, ↓z_dst_s, ↓z_dst_0, ↓z_grdD_b, ↓z_gdf, ne_eq, not_true_eq_false, ↓z_gff, ↓evW_const, ↓constW_int, inR_i64, Int.reduceNeg, Int.reduceLE, and_self, ↓z_pick, ↓z_pick_b, ↓z_gft, ↓z_ops_nil, ↓z_cond, ↓z_cnd, ↓z_gdt, ↓z_skip, ↓z_blk_nrm, ↓z_bn_add, ↓wrW_i64, ↓z_lp_nrm, ↓z_wk, ↓z_wkE_cons, D.int.injEq, true_and, ↓z_wkE_nil, ↓z_wkO_cons, ↓lkoW_cons, ↓z_wkO_nil]); (try simp only [Int.toNat_natCast, Nat.mul_one, Bool.or_false, Bool.false_or, Bool.or_self, Bool.or_true])
      exact ⟨by omega, j + 1, by omega, by omega, by omega⟩
    have hlj : ((j : Int) ≤ k) = False := eq_false (by omega)
    (simp -dsimp only [↓z_seq, ↓z_region, ↓z_ops_plain, ↓z_move, ↓evW_tmp, ↓lkW_cons, ↓reduceIte, ↓z_put, Nat.reduceLT, Nat.reduceEqDiff, ↓z_callb, ↓z_evL_cons, ↓z_evL_nil, ↓z_len, ↓y_ty49, ↓z_ln_osl, ↓z_binOp, ↓z_bn_leq, ↓z_ops_nil, ↓z_seq_nrm, ↓z_cond, ↓z_cnd, ↓z_gdt, hlj, ↓z_exit, ↓z_seq_ext, ↓z_lp_ext, ↓z_blk_ext, ↓evW_const, ↓constW_int, inR_i64, Int.reduceNeg, Int.reduceLE, and_self, ↓z_bn_lss, ↓z_assign, ↓constW_bool, ↓z_ret, ↓z_seq_rt, ↓z_end_rt, resLW, res1W, ↓z_coeL_cons, ↓z_coeL_nil, ↓z_pack1, ↓z_coe_bool, ↓z_skip, ↓z_convert, ↓y_ty5, ↓y_ty3, ↓z_cvt_int, ↓z_cv_int, ↓z_cvi_u8_i64, ↓z_bn_sub, ↓wrW_i64, ↓z_bn_rem, ↓z_rem_i64, ne_eq, ↓constW_nils, ↓z_build, ↓y_ty39, ↓z_blTy_arr, ↓y_zr39, ↓y_sz5, ↓z_bld_nil, ↓z_store, ↓y_sz39, ↓z_cl_oag, List.length_cons, List.length_nil, Nat.zero_add, Nat.reduceAdd, ↓z_store_ptr, ↓lkoW_cons, List.length_map, ↓z_so_cons, ↓z_put_none, ↓z_block, ↓z_loop, true_and, z_sps, z_ite]); (try simp only [Int.toNat_natCast, Nat.mul_one, Bool.or_false, Bool.false_or, Bool.or_self, Bool.or_true])
    refine ⟨fun _ => trivial, fun g2 => ⟨by omega, by omega, by rw [chF_len]; decide, ?_⟩⟩
    obtain ⟨a, ea, ha⟩ : ∃ a : Nat, skip.tmod ((k : Int) - 1) = a ∧ a + 2 ≤ k := by
      have q1 : 0 ≤ skip.tmod ((k : Int) - 1) := Int.tmod_nonneg _ r2.1
      have q2 : skip.tmod ((k : Int) - 1) < (k : Int) - 1 := Int.tmod_lt_of_pos _ (by omega)
      exact ⟨(skip.tmod ((k : Int) - 1)).toNat, by omega, by omega⟩
    have hz : List.take 0 (List.map bD (chF c mN k)) ++ [.int .u8 0, .int .u8 0, .int .u8 0, .int .u8 0, .int .u8 0, .int .u8 0, .int .u8 0, .int .u8 0, .int .u8 0, .int .u8 0, .int .u8 0, .int .u8 0, .int .u8 0, .int .u8 0, .int .u8 0, .int .u8 0] ++ List.drop (0 + 16) (List.map bD (chF c mN k)) = zeroD.map bD := by
      rw [List.drop_of_length_le (by rw [List.length_map, chF_len]; decide)]; rfl
    refine hold_intro ⟨[(24, 22)], Nat, fun i => ⟨212, 4, [(25, .int .i64 i), (24, .osl 3 22 (gF c mN a i).1.length), (23, .int .i64 a), (9, .ptr 1 0), (8, .osl 2 22 k), (3, .ptr 0 0)],
      [(3, List.flatMap xtC (gF c mN a i).1), (2, List.flatMap xtC (lF c mN k)), (1, (gF c mN a i).2.map bD), (0, [.sl 1 c.hs.length (c.hs.map (D.int .i64)), .sl 1 c.ss.length (c.ss.map D.str), .int .i64 c.nd, .int .i64 c.bd])]⟩, fun i => i ≤ k, fun i => k - i, ?_, ?_⟩
    · have hd0 : List.drop 16 (List.map bD (chF c mN k)) = [] := List.drop_of_length_le (by rw [List.length_map, chF_len]; decide)
      (simp -dsimp only [↓z_ad_cons, Nat.reduceLT, ↓lkW_cons, Nat.reduceEqDiff, ↓reduceIte, ↓z_nm_cons, xt_nmC, ↓z_nmC_app, List.take_zero, ↓z_nmC_nil, ↓z_nmC_cons, ↓z_mn'_int, and_self, Nat.zero_add, hd0, ↓z_mn'_sl, ↓z_nm_nil, ↓z_pg_cons, ↓z_mn_int, ↓z_mn_oag, ↓z_mnL_int, ↓z_mnL_nil, ↓z_mn_nils, ↓z_mn_osl, ↓z_mn_bool, ↓z_mn_ptr, reduceCtorEq, ↓z_pg_nil, ↓z_ad_nil, ↓z_wk, ↓z_wkE_cons, D.int.injEq, true_and, D.osl.injEq, ↓z_wkE_nil, and_true, ↓z_wkO_cons, ↓lkoW_cons, List.nil_append, List.append_nil, ↓z_wkO_nil]); (try simp only [Int.toNat_natCast, Nat.mul_one, Bool.or_false, Bool.false_or, Bool.or_self, Bool.or_true])
      exact ⟨0, Nat.zero_le _, ⟨rfl, rfl, ea⟩, rfl, rfl⟩
    intro i hi
    have gl := @gF_len c mN a i
    have gb := @gF_blen c mN a i
    by_cases hik : i < k
    · have hli : ((i : Int) < k) = True := eq_true (by omega)
      have hxi : i < (lF c mN k).length := by rw [lF_len]; exact hik
      by_cases hia : i = a ∧ 0 < a
      · have h1 : ((i : Int) = a) = True := eq_true (by omega)
        have h2 : ((0 : Int) < a) = True := eq_true (by omega)
        (simp -dsimp only [↓z_seq, ↓z_region, ↓z_ops_plain, ↓z_move, ↓evW_tmp, ↓lkW_cons, ↓reduceIte, ↓z_put, Nat.reduceLT, Nat.reduceEqDiff, ↓z_callb, ↓z_evL_cons, ↓z_evL_nil, ↓z_len, ↓y_ty49, ↓z_ln_osl, ↓z_binOp, ↓z_bn_lss, ↓z_ops_nil, ↓z_seq_nrm, ↓z_cond, ↓z_cnd, ↓z_gdt, hli, ↓z_skip, ↓z_block, ↓z_bn_eql, ↓z_ops_guard, ↓z_grd, ↓z_dst_s, ↓z_dst_0, ↓z_grdD_b, h1, ↓z_gtt, ↓evW_const, ↓constW_int, inR_i64, Int.reduceNeg, Int.reduceLE, and_self, ↓z_bn_gtr, ↓z_pick, ↓z_pick_b, h2, ↓z_exit, ↓z_seq_ext, ↓z_blk_ext, ↓z_bn_add, ↓wrW_i64, ↓z_assign, ↓z_lp_nrm, ↓z_wk, ↓z_wkE_cons, D.int.injEq, true_and, D.osl.injEq, ↓z_wkE_nil, and_true, ↓z_wkO_cons, ↓lkoW_cons, reduceCtorEq, ↓z_wkO_nil]); (try simp only [Int.toNat_natCast, Nat.mul_one, Bool.or_false, Bool.false_or, Bool.or_self, Bool.or_true])
        have gs : gF c mN a (i + 1) = gF c mN a i := if_pos hia
        exact ⟨by omega, i + 1, by omega, by omega, ⟨by omega, by rw [gs]⟩, by rw [gs], by rw [gs]⟩
      · have gs : gF c mN a (i + 1) = ((gF c mN a i).1 ++ [xG c mN i (gF c mN a i).2], recD (gF c mN a i).2 (plK c mN i) (lastF c mN i)) := if_neg hia
        have hti : List.take 22 (List.drop (i * 22) (List.flatMap xtC (lF c mN k))) = .int .i64 7 :: .int .i64 (lastF c mN i) :: .int .i64 (lastF c mN (i + 1)) :: .int .i64 (lastF c mN i) :: .sl 19 (plK c mN i).v.length (List.flatMap blC (plK c mN i).v) :: .int .i64 (lastF c mN i) :: (chF c mN (i + 1)).map bD := by
          have e1 : (lF c mN k)[i] = xF c mN i := by
            have := lF_at (c := c) (more := mN) hik
            rw [List.getElem?_eq_getElem hxi] at this
            exact Option.some.inj this
          rw [xt_at hxi, e1, xt_eq]; rfl
        have hR : Fn GH Tryd.prog 16 [.agg ((gF c mN a i).2.map bD), .agg [.int .i64 7, .int .i64 (lastF c mN i), .int .i64 (lastF c mN (i + 1)), .int .i64 (lastF c mN i), .sl 19 (plK c mN i).v.length (List.flatMap blC (plK c mN i).v)], .int .i64 (lastF c mN i)] (.agg ((recD (gF c mN a i).2 (plK c mN i) (lastF c mN i)).map bD)) := (fn_Record (gF c mN a i).2 gb (plK c mN i) (lastF c mN i) (by have := chP_len c (lastF c mN i) (lastF c mN (i + 1)) c.hs.length; show (chP c _ _ c.hs.length).v.length ≤ 1000; omega)).inp rfl
        have lr := recD_len (gF c mN a i).2 (plK c mN i) (lastF c mN i)
        have lc := chF_len c mN (i + 1)
        have eg : List.take 16 (gF c mN a i).2 = (gF c mN a i).2 := List.take_of_length_le (by omega)
        have gl2 : (gF c mN a i).1.length ≤ i := by rw [gl]; split <;> omega
        have lr2 : (recD (gF c mN a i).2 (plK c mN i) (lastF c mN i)).length = 16 := lr
        have x1 : List.take 16 (recD (gF c mN a i).2 (plK c mN i) (lastF c mN i) ++ List.drop 16 (chF c mN (i + 1))) = recD (gF c mN a i).2 (plK c mN i) (lastF c mN i) := by
          rw [List.take_append_of_le_length (by omega), List.take_of_length_le (by omega)]
        have x2 : List.drop 16 (gF c mN a i).2 = [] := List.drop_of_length_le (by omega)
        have y1 : List.flatMap xtC (gF c mN a i).1 ++ .int .i64 7 :: .int .i64 (lastF c mN i) :: .int .i64 (lastF c mN (i + 1)) :: .int .i64 (lastF c mN i) :: .sl 19 (plK c mN i).v.length (List.flatMap blC (plK c mN i).v) :: .int .i64 (lastF c mN i) :: List.map bD (List.take 16 (recD (gF c mN a i).2 (plK c mN i) (lastF c mN i) ++ List.drop 16 (chF c mN (i + 1)))) = List.flatMap xtC (gF c mN a (i + 1)).1 := by
          rw [x1, gs]
          show _ = List.flatMap xtC ((gF c mN a i).1 ++ [xG c mN i (gF c mN a i).2])
          rw [List.flatMap_append, List.flatMap_cons, List.flatMap_nil, List.append_nil, xt_eq]; rfl
        have y2 : List.map bD (List.take 16 (recD (gF c mN a i).2 (plK c mN i) (lastF c mN i) ++ List.drop 16 (chF c mN (i + 1))) ++ List.drop 16 (gF c mN a i).2) = List.map bD (gF c mN a (i + 1)).2 := by
          rw [x1, x2, List.append_nil, gs]
        have y3 : (gF c mN a i).1.length + 1 = (gF c mN a (i + 1)).1.length := by rw [gs]; simp
        have hcase : ((i : Int) = a) = False ∨ (((i : Int) = a) = True ∧ ((0 : Int) < a) = False) := by
          by_cases q : i = a
          · exact .inr ⟨eq_true (by omega), eq_false (by omega)⟩
          · exact .inl (eq_false (by omega))
        rcases hcase with h1 | ⟨h1, h2⟩
        · (simp -dsimp only [↓z_seq, ↓z_region, ↓z_ops_plain, ↓z_move, ↓evW_tmp, ↓lkW_cons, ↓reduceIte, ↓z_put, Nat.reduceLT, Nat.reduceEqDiff, ↓z_callb, ↓z_evL_cons, ↓z_evL_nil, ↓z_len, ↓y_ty49, ↓z_ln_osl, ↓z_binOp, ↓z_bn_lss, ↓z_ops_nil, ↓z_seq_nrm, ↓z_cond, ↓z_cnd, ↓z_gdt, hli, ↓z_skip, ↓z_block, ↓z_bn_eql, ↓z_ops_guard, ↓z_grd, ↓z_dst_s, ↓z_dst_0, ↓z_grdD_b, h1, ↓z_gnt, ↓z_gtf, ↓z_pick, ↓z_pick_b, ↓evW_const, ↓constW_bool, ↓z_gft, ↓z_indexAddr, ↓z_elTy_sl, ↓y_sz53, ↓z_ix_osl, ↓z_load, ↓y_ty53, ↓z_agTy_st, ↓loadW_ptr, ↓lkoW_cons, ↓z_rd_t, xt_len, ↓z_alloc, ↓y_zr53, ↓z_new, ↓z_nm_cons, xt_nmC, ↓z_nmC_bytes, ↓z_nmC_cons, ↓z_mn'_sl, ↓z_mn'_int, ↓z_nmC_nil, and_self, ↓z_nm_nil, ↓z_pg_cons, ↓z_mn_oag, ↓z_mn_ptr, ↓z_mn_int, ↓z_mn_osl, ↓z_mn_bool, ↓z_mn_tup, reduceCtorEq, ↓z_pg_nil, ↓z_store, ↓z_cl_oag, ↓z_store_ptr, Nat.zero_add, List.length_cons, List.length_nil, Nat.reduceAdd, Nat.reduceLeDiff, ↓spsW_cons, ↓drW_cons, Nat.reduceSub, ↓drW_nil, ↓z_cat_nil_r, ↓z_so_cons, ↓z_put_none, ↓y_ty39, ↓y_sz39, ↓z_agTy_arr, List.length_map, ↓z_sub_map, ↓z_fieldAddr, ↓y_fl53x0, ↓y_sz34, ne_eq, not_false_eq_true, ↓z_fa_ptr, ↓y_ty34, ↓y_fl53x1, ↓y_sz3, ↓y_ty3, ↓z_agTy_int, ↓z_rd_f, ↓z_callv, ↓evW_func, ↓z_fun0, ↓z_coeL_cons, ↓z_coe_oag, ↓z_coeC_bytes, List.drop_zero, Bool.not_true, ↓z_coeL_nil, true_and, z_sub, List.length_take, List.length_drop]); (try simp only [Int.toNat_natCast])
          rw [hti]
          (simp -dsimp only [↓z_mnL_int, ↓z_mnL_sl, ↓z_mnL_bytes, ↓nthW_cons, reduceCtorEq, ↓reduceIte, Nat.reduceSub, List.take_succ_cons, List.take_zero, ↓z_coe_int, ↓z_coeC_cons, ↓z_coeS_int, ↓z_coeS_sl, ↓z_coeC_nil]); (try simp only [Int.toNat_natCast, Nat.mul_one, Bool.or_false, Bool.false_or, Bool.or_self, Bool.or_true])
          refine ⟨by omega, by rw [lF_len]; omega, by rw [lF_len]; omega, by omega, by rw [lF_len]; omega, ?_⟩
          refine call_fnL (hR.inp (by rw [List.drop_zero, eg])) (flS_bytes _) fun _ => ?_
          (simp -dsimp only [↓z_put, Nat.reduceLT, ↓z_ops_plain, ↓z_fieldAddr, ↓evW_tmp, ↓lkW_cons, Nat.reduceEqDiff, ↓reduceIte, ↓y_fl53x2, ↓y_sz39, ne_eq, reduceCtorEq, not_false_eq_true, ↓z_fa_ptr, ↓z_store, ↓z_cl_agg, List.length_map, ↓z_store_ptr, ↓lkoW_cons, Nat.zero_add, Nat.reduceAdd, List.length_cons, Nat.reduceLeDiff, ↓spsW_cons, Nat.reduceSub, ↓z_sps_map, ↓z_so_cons, ↓z_put_none, ↓z_ops_nil, ↓z_seq_nrm, ↓z_seq, ↓z_region, ↓z_load, ↓y_ty39, ↓z_agTy_arr, ↓loadW_ptr, ↓z_rd_t, List.take_zero, List.nil_append, List.length_append, List.length_drop, ↓z_sub_cs, ↓z_sub_map, ↓z_cl_oag, List.drop_zero, List.length_take, ↓z_move, ↓y_ty53, ↓y_sz53, ↓z_agTy_st, ↓z_sub_c, ↓z_buildSlice, ↓y_ty49, ↓z_slTy, Nat.reduceMul, maxLen_lit, ↓y_zr53, List.length_nil, ↓z_repL_s, ↓z_repL_0, ↓z_cat_nil_r, ↓z_bld_cons, Nat.zero_mul, ↓drW_cons, ↓drW_nil, ↓z_bld_nil, ↓z_allP_cons, ↓z_isP_int, ↓z_isP_sl, ↓z_allP_bytes, and_self, ↓z_callb, ↓z_evL_cons, ↓z_evL_nil, ↓z_append, ↓z_nint_sl, ↓y_by53, ↓z_src_slx, ↓z_app_osl, xt_len, xt_nmC, ↓z_room, ↓z_pgo_cons, ↓z_nmC_cons, ↓z_mn'_int, ↓z_mn'_sl, ↓z_nmC_bytes, ↓z_pgc_nm, ↓z_nmC_nil, ↓z_pgo_nil, ↓z_pg_cons, ↓z_mn_slx, ↓z_mn_oag, ↓z_mnL_int, ↓z_mnL_sl, ↓z_mnL_bytes, ↓z_mn_osl, ↓z_mn_ptr, ↓z_mn_agg, ↓z_mn_int, List.take_succ_cons, ↓z_mn_bool, ↓z_mn_tup, ↓z_pg_nil, ↓z_assign, ↓z_blk_nrm, ↓z_binOp, ↓evW_const, ↓constW_int, inR_i64, Int.reduceNeg, Int.reduceLE, ↓z_bn_add, ↓wrW_i64, ↓z_lp_nrm, ↓z_wk, ↓z_wkE_cons, D.int.injEq, true_and, D.osl.injEq, ↓z_wkE_nil, and_true, ↓z_wkO_cons, ↓z_wkO_nil, ↓z_mnL_nil]); (try simp only [Int.toNat_natCast, Nat.mul_one, Bool.or_false, Bool.false_or, Bool.or_self, Bool.or_true])
          exact ⟨lr2, by omega, by omega, by omega, by omega, by omega, by omega, by omega, by omega, by omega, i + 1, by omega, by omega, ⟨by omega, y3⟩, y1, y2⟩
        · (simp -dsimp only [↓z_seq, ↓z_region, ↓z_ops_plain, ↓z_move, ↓evW_tmp, ↓lkW_cons, ↓reduceIte, ↓z_put, Nat.reduceLT, Nat.reduceEqDiff, ↓z_callb, ↓z_evL_cons, ↓z_evL_nil, ↓z_len, ↓y_ty49, ↓z_ln_osl, ↓z_binOp, ↓z_bn_lss, ↓z_ops_nil, ↓z_seq_nrm, ↓z_cond, ↓z_cnd, ↓z_gdt, hli, ↓z_skip, ↓z_block, ↓z_bn_eql, ↓z_ops_guard, ↓z_grd, ↓z_dst_s, ↓z_dst_0, ↓z_grdD_b, h1, ↓z_gtt, ↓evW_const, ↓constW_int, inR_i64, Int.reduceNeg, Int.reduceLE, and_self, ↓z_bn_gtr, ↓z_pick, ↓z_pick_b, h2, ↓z_indexAddr, ↓z_elTy_sl, ↓y_sz53, ↓z_ix_osl, ↓z_load, ↓y_ty53, ↓z_agTy_st, ↓loadW_ptr, ↓lkoW_cons, ↓z_rd_t, xt_len, ↓z_alloc, ↓y_zr53, ↓z_new, ↓z_nm_cons, xt_nmC, ↓z_nmC_bytes, ↓z_nmC_cons, ↓z_mn'_sl, ↓z_mn'_int, ↓z_nmC_nil, ↓z_nm_nil, ↓z_pg_cons, ↓z_mn_oag, ↓z_mn_ptr, ↓z_mn_int, ↓z_mn_osl, ↓z_mn_bool, reduceCtorEq, ↓z_pg_nil, ↓z_store, ↓z_cl_oag, ↓z_store_ptr, Nat.zero_add, List.length_cons, List.length_nil, Nat.reduceAdd, Nat.reduceLeDiff, ↓spsW_cons, ↓drW_cons, Nat.reduceSub, ↓drW_nil, ↓z_cat_nil_r, ↓z_so_cons, ↓z_put_none, ↓y_ty39, ↓y_sz39, ↓z_agTy_arr, List.length_map, ↓z_sub_map, ↓z_fieldAddr, ↓y_fl53x0, ↓y_sz34, ne_eq, not_false_eq_true, ↓z_fa_ptr, ↓y_ty34, ↓y_fl53x1, ↓y_sz3, ↓y_ty3, ↓z_agTy_int, ↓z_rd_f, ↓z_callv, ↓evW_func, ↓z_fun0, ↓z_coeL_cons, ↓z_coe_oag, ↓z_coeC_bytes, List.drop_zero, ↓z_coeL_nil, true_and, z_sub, List.length_take, List.length_drop]); (try simp only [Int.toNat_natCast])
          rw [hti]
          (simp -dsimp only [↓z_mnL_int, ↓z_mnL_sl, ↓z_mnL_bytes, ↓nthW_cons, reduceCtorEq, ↓reduceIte, Nat.reduceSub, List.take_succ_cons, List.take_zero, ↓z_coe_int, ↓z_coeC_cons, ↓z_coeS_int, ↓z_coeS_sl, ↓z_coeC_nil]); (try simp only [Int.toNat_natCast, Nat.mul_one, Bool.or_false, Bool.false_or, Bool.or_self, Bool.or_true])
          refine ⟨by omega, by rw [lF_len]; omega, by rw [lF_len]; omega, by omega, by rw [lF_len]; omega, ?_⟩
          refine call_fnL (hR.inp (by rw [List.drop_zero, eg])) (flS_bytes _) fun _ => ?_
          (simp -dsimp only [↓z_put, Nat.reduceLT, ↓z_ops_plain, ↓z_fieldAddr, ↓evW_tmp, ↓lkW_cons, Nat.reduceEqDiff, ↓reduceIte, ↓y_fl53x2, ↓y_sz39, ne_eq, reduceCtorEq, not_false_eq_true, ↓z_fa_ptr, ↓z_store, ↓z_cl_agg, List.length_map, ↓z_store_ptr, ↓lkoW_cons, Nat.zero_add, Nat.reduceAdd, List.length_cons, Nat.reduceLeDiff, ↓spsW_cons, Nat.reduceSub, ↓z_sps_map, ↓z_so_cons, ↓z_put_none, ↓z_ops_nil, ↓z_seq_nrm, ↓z_seq, ↓z_region, ↓z_load, ↓y_ty39, ↓z_agTy_arr, ↓loadW_ptr, ↓z_rd_t, List.take_zero, List.nil_append, List.length_append, List.length_drop, ↓z_sub_cs, ↓z_sub_map, ↓z_cl_oag, List.drop_zero, List.length_take, ↓z_move, ↓y_ty53, ↓y_sz53, ↓z_agTy_st, ↓z_sub_c, ↓z_buildSlice, ↓y_ty49, ↓z_slTy, Nat.reduceMul, maxLen_lit, ↓y_zr53, List.length_nil, ↓z_repL_s, ↓z_repL_0, ↓z_cat_nil_r, ↓z_bld_cons, Nat.zero_mul, ↓drW_cons, ↓drW_nil, ↓z_bld_nil, ↓z_allP_cons, ↓z_isP_int, ↓z_isP_sl, ↓z_allP_bytes, and_self, ↓z_callb, ↓z_evL_cons, ↓z_evL_nil, ↓z_append, ↓z_nint_sl, ↓y_by53, ↓z_src_slx, ↓z_app_osl, xt_len, xt_nmC, ↓z_room, ↓z_pgo_cons, ↓z_nmC_cons, ↓z_mn'_int, ↓z_mn'_sl, ↓z_nmC_bytes, ↓z_pgc_nm, ↓z_nmC_nil, ↓z_pgo_nil, ↓z_pg_cons, ↓z_mn_slx, ↓z_mn_oag, ↓z_mnL_int, ↓z_mnL_sl, ↓z_mnL_bytes, ↓z_mn_osl, ↓z_mn_ptr, ↓z_mn_agg, ↓z_mn_int, List.take_succ_cons, ↓z_mn_bool, ↓z_pg_nil, ↓z_assign, ↓z_blk_nrm, ↓z_binOp, ↓evW_const, ↓constW_int, inR_i64, Int.reduceNeg, Int.reduceLE, ↓z_bn_add, ↓wrW_i64, ↓z_lp_nrm, ↓z_wk, ↓z_wkE_cons, D.int.injEq, true_and, D.osl.injEq, ↓z_wkE_nil, and_true, ↓z_wkO_cons, ↓z_wkO_nil, ↓z_mnL_nil]); (try simp only [Int.toNat_natCast, Nat.mul_one, Bool.or_false, Bool.false_or, Bool.or_self, Bool.or_true])
          exact ⟨lr2, by omega, by omega, by omega, by omega, by omega, by omega, by omega, by omega, by omega, i + 1, by omega, by omega, ⟨by omega, y3⟩, y1, y2⟩
    · have hli : ((i : Int) < k) = False := eq_false (by omega)
      (simp -dsimp only [↓z_seq, ↓z_region, ↓z_ops_plain, ↓z_move, ↓evW_tmp, ↓lkW_cons, ↓reduceIte, ↓z_put, Nat.reduceLT, Nat.reduceEqDiff, ↓z_callb, ↓z_evL_cons, ↓z_evL_nil, ↓z_len, ↓y_ty49, ↓z_ln_osl, ↓z_binOp, ↓z_bn_lss, ↓z_ops_nil, ↓z_seq_nrm, ↓z_cond, ↓z_cnd, ↓z_gdt, hli, ↓z_exit, ↓z_seq_ext, ↓z_lp_ext, ↓z_blk_ext, ↓z_load, ↓y_ty25, ↓y_sz25, ↓z_agTy_st, ↓loadW_ptr, ↓lkoW_cons, reduceCtorEq, ↓z_rd_t, Nat.zero_add, List.length_cons, List.length_nil, Nat.reduceAdd, Nat.reduceLeDiff, ↓z_sub_c, ↓z_sub_nil, ↓z_callv, ↓evW_func, ↓z_fun0, ↓z_coeL_cons, ↓z_coe_oag, ↓z_coeC_cons, ↓z_coeS_sl, ↓z_coeS_int, ↓z_coeC_nil, ↓z_coe_osl, xt_allP, xt_len, ↓z_coeL_nil, true_and]); (try simp only [Int.toNat_natCast, Nat.mul_one, Bool.or_false, Bool.false_or, Bool.or_self, Bool.or_true])
      have ei : i = k := by omega
      have hfin := hVf (gF c mN a i).1 (by rw [gl]; split <;> omega) (hxl _ (gF_p i))
      rw [ei] at hfin
      rw [gF_vf hc ha hU] at hfin
      rw [← ei] at hfin
      by_cases ha0 : a = 0
      · rw [if_pos ha0] at hfin
        refine call_fnL hfin (by intro d hd; simp at hd; rcases hd with rfl | rfl <;> rfl) fun _ => ?_
        (simp -dsimp only [↓z_put, Nat.reduceLT, ↓z_ops_plain, ↓z_move, ↓evW_tmp, ↓lkW_cons, ↓reduceIte, ↓z_extract, ↓z_ex, ↓nthW_cons, Nat.reduceEqDiff, reduceCtorEq, Nat.reduceSub, ↓z_assign, ↓z_ops_nil, ↓z_seq_nrm, ↓z_seq, ↓z_region, ↓z_binOp, ↓evW_const, ↓constW_int, inR_i64, Int.reduceNeg, Int.reduceLE, and_self, ↓z_bn_eql, ↓z_cond, ↓z_cnd, ↓z_gdt, ↓z_callb, ↓z_evL_cons, ↓z_evL_nil, ↓z_len, ↓y_ty49, ↓z_ln_osl, ↓z_ops_guard, ↓z_grd, ↓z_dst_s, ↓z_dst_0, ↓z_grdD_b, ↓z_gtt, ↓z_pick, ↓z_pick_b, ↓z_ret, ↓z_seq_rt, ↓z_end_rt, resLW, res1W, ↓z_coeL_cons, ↓z_coeL_nil, ↓z_pack1, ↓z_coe_bool, D.bool.injEq, decide_eq_true_eq, ↓z_gnt, ↓z_gtf, ↓constW_bool, Bool.not_true, and_false, z_ite, true_and, ↓z_skip, Int.reduceEq]); (try simp only [Int.toNat_natCast, Nat.mul_one, Bool.or_false, Bool.false_or, Bool.or_self, Bool.or_true])
        exact ⟨fun _ => ⟨fun _ => trivial, fun g => g (by omega)⟩, fun g => absurd (show (a : Int) = 0 by omega) g⟩
      · rw [if_neg ha0] at hfin
        refine call_fnL hfin (by intro d hd; simp at hd; rcases hd with rfl | rfl <;> rfl) fun _ => ?_
        (simp -dsimp only [↓z_put, Nat.reduceLT, ↓z_ops_plain, ↓z_move, ↓evW_tmp, ↓lkW_cons, ↓reduceIte, ↓z_extract, ↓z_ex, ↓nthW_cons, Nat.reduceEqDiff, reduceCtorEq, Nat.reduceSub, ↓z_assign, ↓z_ops_nil, ↓z_seq_nrm, ↓z_seq, ↓z_region, ↓z_binOp, ↓evW_const, ↓constW_int, inR_i64, Int.reduceNeg, Int.reduceLE, and_self, ↓z_bn_eql, ↓z_cond, ↓z_cnd, ↓z_gdt, ↓z_callb, ↓z_evL_cons, ↓z_evL_nil, ↓z_len, ↓y_ty49, ↓z_ln_osl, ↓z_ops_guard, ↓z_grd, ↓z_dst_s, ↓z_dst_0, ↓z_grdD_b, ↓z_gtt, ↓z_pick, ↓z_pick_b, ↓z_ret, ↓z_seq_rt, ↓z_end_rt, resLW, res1W, Int.reduceEq, ↓z_coeL_cons, ↓z_coeL_nil, ↓z_pack1, ↓z_coe_bool, D.bool.injEq, decide_eq_true_eq, and_false, ↓z_gnt, ↓z_gtf, ↓constW_bool, Bool.not_true, z_ite, true_and, ↓z_skip]); (try simp only [Int.toNat_natCast, Nat.mul_one, Bool.or_false, Bool.false_or, Bool.or_self, Bool.or_true])
        exact ⟨fun g => absurd (show a = 0 by omega) ha0, fun _ => trivial⟩
end Go.Abs

