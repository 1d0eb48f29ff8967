/-
  HASH, fourth walks: a block is hashed.
-/
import Derived.Test.YtaakjjhifhjbfaaDoorH3
import Derived.Test.YtaakjjhifhjbfaaDoorAbs30
section
namespace Go.Abs
open Go.Proofs
def ktC : List D := (wI kt).map (D.int .u32)
/-- The program's table of constants. -/
abbrev GH : Glob := [(0, ktC)]
/-- Both tables of constants: the program's and the document's. -/
abbrev GK : Glob := [(0, ktC), (1, ktC)]
theorem GH_GK : ∀ g cs, lk g GH = some cs → lk g GK = some cs := fun g cs h => by
  simp only [lk] at h ⊢
  split at h
  · rename_i e; rw [if_pos e]; exact h
  · cases h
theorem Fn.gk {f : FuncId} {ds : List D} {d : D} (h : Fn GH Tryd.prog f ds d) : Fn GK Tryd.prog f ds d := h.glob GH_GK
theorem kt_at {t : Nat} (h : t < (wI kt).length) : (wI kt)[t] = ((kt.getD t 0 : Nat) : Int) := by
  rw [wI_get, List.getD_eq_getElem?_getD, List.getElem?_eq_getElem]; rfl
theorem sch_at {b : List UInt8} {t : Nat} (h : t < (wI (sch b 64)).length) : (wI (sch b 64))[t] = (((sch b 64).getD t 0 : Nat) : Int) := by
  rw [wI_get, List.getD_eq_getElem?_getD, List.getElem?_eq_getElem]; rfl
/-- The state while the words of a block's end are added. -/
def adL (s v : S8) (i : Nat) : List Nat := [if 0 < i then ad s.a v.a else s.a, if 1 < i then ad s.b v.b else s.b, if 2 < i then ad s.c v.c else s.c, if 3 < i then ad s.d v.d else s.d,
  if 0 < i then ad s.e v.e else s.e, if 1 < i then ad s.f v.f else s.f, if 2 < i then ad s.g v.g else s.g, if 3 < i then ad s.h v.h else s.h]
set_option maxRecDepth 100000 in
set_option maxHeartbeats 8000000 in
theorem fn_compress (s : S8) (b : List UInt8) (hb : b.length = 64) : Fn GH Tryd.prog 64 [.agg (s8C s), .sl 1 64 (b.map bD)] (.agg (s8C (cmp8 s b))) := by
  unfold s8C
  refine Fn.mk (c := _) Tryd.func64 rfl rfl Tryd.ntmps64 Tryd.results64 ?_
  (simp -dsimp only [bodyW, List.length_cons, List.length_nil, Nat.zero_add, Nat.reduceAdd, Nat.reduceLeDiff, wfL, ↓z_seq, ↓z_region, ↓z_ops_plain, ↓z_box, ↓evW_tmp, ↓z_lk_env, ↓reduceIte, ↓z_cl_agg, ↓z_nmC_cons, ↓z_mn'_int, ↓z_nmC_nil, and_self, ↓z_new, ↓z_nm_nil, Nat.reduceLT, ↓z_pg_env, ↓z_mn_agg, ↓z_mn_sl, ↓z_pg_env0, ↓z_put, ↓z_alloc, ↓y_zr99, ↓z_nm_cons, ↓z_pg_cons, ↓z_mn_ptr, reduceCtorEq, ↓z_pg_nil, ↓z_ops_nil, ↓z_seq_nrm, ↓z_move, ↓lkW_cons, Nat.reduceEqDiff, ↓z_callv, ↓evW_func, ↓z_evL_cons, ↓z_evL_nil, ↓z_fun0, ↓z_coeL_cons, ↓z_coe_sl, ↓z_coeL_nil, true_and])
  intro _ _
  refine call_fn (fn_schedule GH b hb) fun _ => ?_
  have hz : (wI (sch b 64)).length = 64 := by rw [wI_len, sch_len]
  (simp -dsimp only [↓z_put, Nat.reduceLT, ↓z_ops_plain, ↓z_alloc, ↓y_zr121, ↓z_new, ↓z_nm_cons, ↓z_nmC_cons, ↓z_mn'_int, ↓z_nmC_nil, and_self, ↓z_nm_nil, Nat.zero_add, Nat.reduceAdd, ↓z_pg_cons, ↓z_mn_agg, ↓z_mn_sl, ↓z_mn_ptr, Nat.reduceEqDiff, ↓reduceIte, reduceCtorEq, ↓z_pg_nil, ↓z_store, ↓evW_tmp, ↓lkW_cons, ↓y_sz121, ↓z_cl_agg, List.length_map, hz, ↓z_store_ptr, ↓lkoW_cons, List.length_cons, List.length_nil, Nat.reduceLeDiff, ↓spsW_cons, ↓drW_cons, Nat.reduceSub, ↓drW_nil, ↓z_cat_nil_r, ↓z_so_cons, ↓z_put_none, ↓z_ops_nil, ↓z_seq_nrm, ↓z_seq, ↓z_region_d, ↓y_mix, true_and])
  refine rgn_x 9 [] (by decide +kernel) ?_
  (simp -dsimp only [↓z_nmRE_cons, ↓z_nmR_ptr, Nat.zero_add, Nat.reduceAdd, Nat.reduceLT, Nat.reduceLeDiff, or_false, ↓z_nmR_agg, ↓z_nmR_sl, ↓z_nmRE_nil, and_self, ↓z_nmRO_cons, ↓z_nmRL_int, ↓z_nmRL_cons, ↓z_nmR_int, ↓z_nmRL_nil, ↓z_nmRO_nil, ↓z_splitO_cons, List.not_mem_nil, ↓reduceIte, ↓z_splitO_nil, List.take_succ_cons, List.take_zero, List.drop_succ_cons, List.drop_zero, ↓z_seq, ↓z_region, ↓z_ops_plain, ↓z_load, ↓evW_global, ↓glW_cons, ↓y_ty121, ↓y_sz121, ↓z_agTy_arr, ↓loadW_rop, ↓z_rd_t, ↓z_move, ↓evW_const, ↓constW_int, inR_i64, Int.reduceNeg, Int.reduceLE, ↓z_ops_nil, ↓z_seq_nrm, ↓z_block, ↓z_loop, true_and, z_sub, resLW, res1W, ↓y_ty99, ↓y_sz99, ↓z_coeL_cons, ↓z_coeL_nil, ↓z_pack1, ↓z_store, ↓evW_tmp, ↓y_sz123, ↓z_put_none, ↓z_drx_slice, ↓z_drxS, ↓z_grd_none, ↓z_withE, ↓z_rd_tmp, ↓lkW_cons, Nat.reduceEqDiff, ↓z_oLn, ↓z_oL, List.nil_append, List.append_nil, ↓z_ap_cons, ↓z_apO_cons, ↓z_apO_nil, ↓z_or_slice, ↓z_slice, ↓z_evO_none, ↓z_bo_none, ↓z_evO_some, ↓z_bo_some, ↓z_seTy_arr, ↓y_sz98, ↓z_slc_ptr_nh, ↓lkoW_cons, reduceCtorEq, Nat.mul_one, List.length_cons, List.length_nil, maxLen_lit, Int.reduceToNat, and_true, ↓z_rd_const, ↓z_rd_nil, ↓z_ap_nil, ↓z_exD_all, ↓z_exD_all2, ↓z_exD_and, ↓z_exD_eq, ↓z_nmR_osw, ↓z_put, ↓z_drxK, ↓z_drx_s2a, ↓z_or_sliceToArrayPointer, ↓z_s2a, ↓y_ty123, ↓z_arTy, ↓z_s2a_osw, ↓z_drx_load, ↓z_or_load, ↓loadW_ptr, ↓z_sub_c, ↓z_sub_c0, ↓z_nmR_oag, ↓z_nmRS_int, ↓z_nmRS_nil, ↓z_slc_ptr_ln, Nat.reduceSub, ↓z_sub_cs, ↓z_sub_nil, ↓z_drx_alloc, ↓y_zr123, ↓z_drx_store, ↓z_ptX, ↓z_noW_nil, ↓z_alW_cons, false_implies, true_implies, ↓z_alW_nil, ↓z_cl_oag, ↓z_spl, ↓spsW_cons, ↓drW_cons, ↓drW_nil, ↓z_cat_nil_r, ↓z_so_cons, ↓z_drx_nil, ↓z_store_ptr])
  have e64 : List.take 64 ktC = (wI kt).map (D.int .u32) := rfl
  rw [e64]
  refine ⟨by decide, by decide, by decide, hold_intro ⟨[], Nat, fun t => ⟨116, 5, [(22, .int .i64 t), (21, .agg ((wI kt).map (D.int .u32))), (7, .ptr 4 0), (6, .ptr 3 0), (5, .ptr 2 0), (4, .ptr 1 0), (2, .ptr 0 0)],
    [(4, [.int .u32 (rnds s (sch b 64) t).e, .int .u32 (rnds s (sch b 64) t).f, .int .u32 (rnds s (sch b 64) t).g, .int .u32 (rnds s (sch b 64) t).h]), (3, [.int .u32 (rnds s (sch b 64) t).a, .int .u32 (rnds s (sch b 64) t).b, .int .u32 (rnds s (sch b 64) t).c, .int .u32 (rnds s (sch b 64) t).d]),
     (2, (wI (sch b 64)).map (D.int .u32)), (1, [.int .u32 0, .int .u32 0, .int .u32 0, .int .u32 0, .int .u32 0, .int .u32 0, .int .u32 0, .int .u32 0]), (0, [.int .u32 s.a, .int .u32 s.b, .int .u32 s.c, .int .u32 s.d, .int .u32 s.e, .int .u32 s.f, .int .u32 s.g, .int .u32 s.h])]⟩, fun t => t ≤ 64, fun t => 64 - t, ?_, ?_⟩⟩
  · (simp -dsimp only [↓z_ad_nil, ↓z_wk, ↓z_wkE_cons, ↓lkW_cons, ↓reduceIte, D.int.injEq, true_and, Nat.reduceEqDiff, Nat.reduceAdd, ↓z_wkE_nil, and_self, and_true, ↓z_wkO_cons, ↓lkoW_cons, List.cons.injEq, reduceCtorEq, ↓z_wkO_nil]); (try simp only [Int.toNat_natCast, Nat.mul_one, Bool.or_false, Bool.false_or, Bool.or_self, Bool.or_true])
    exact ⟨0, by omega, by simp [rnds]⟩
  rintro t ht
  have hk : (wI kt).length = 64 := by decide
  obtain ⟨R, hR⟩ : ∃ R, rnds s (sch b 64) t = R := ⟨_, rfl⟩
  (simp -dsimp only [↓z_seq, ↓z_region, ↓z_ops_plain, ↓z_binOp, ↓evW_tmp, ↓lkW_cons, ↓reduceIte, ↓evW_const, ↓constW_int, inR_i64, Int.reduceNeg, Int.reduceLE, and_self, ↓z_bn_lss, ↓z_put, Nat.reduceLT, ↓z_ops_nil, ↓z_seq_nrm, ↓z_cond, ↓z_cnd, ↓z_gdt, ↓z_skip, ↓z_block, ↓z_move, Nat.reduceEqDiff, ↓z_index, ↓y_ty121, ↓z_in_arr, ↓y_sz98, ↓y_ty98, ↓z_isAg_int, ↓z_assign, ↓z_region_d, ↓y_mix, true_and, ↓z_inx_arr, ↓z_fv_agg, ↓z_rd_f, ↓z_nth_int, Nat.mul_one, hk, ↓z_exit, ↓z_seq_ext, ↓z_lp_ext, ↓z_blk_ext, ↓z_loop, z_ite]); (try simp only [Int.toNat_natCast])
  refine ⟨fun h => ?_, fun h => ?_⟩
  · refine ⟨by omega, by omega, by omega, rgn_d (by decide +kernel) ?_⟩
    (simp -dsimp only [↓z_drw_indexAddr, ↓z_drwS, ↓z_grd_none, ↓z_withE, ↓z_rd_tmp, ↓lkW_cons, Nat.reduceEqDiff, ↓reduceIte, ↓z_rd_const, ↓z_rd_nil, ↓z_ap_cons, ↓z_ap_nil, ↓z_or_indexAddr, ↓z_indexAddr, ↓evW_tmp, ↓evW_const, ↓constW_int, inR_i64, Int.reduceNeg, Int.reduceLE, and_self, ↓y_ty123, ↓z_elTy_arr, ↓y_sz98, ↓z_ix_ptr, Int.reduceToNat, Nat.mul_one, Nat.zero_add, hR, and_true, true_and, ↓z_exD_all, ↓z_exD_and, ↓z_exD_eq, ↓z_put, Nat.reduceLT, ↓z_drwK, ↓z_drw_load, ↓z_or_load, ↓z_load, ↓y_ty98, ↓z_agTy_int, ↓loadW_ptr, ↓lkoW_cons, ↓z_rd_f, ↓nthW_cons, reduceCtorEq, Nat.reduceSub, ↓z_drw_callv, ↓z_rd_func]); (try simp only [Int.toNat_natCast, Nat.mul_one, Bool.or_false, Bool.false_or, Bool.or_self, Bool.or_true])
    refine ⟨by omega, by omega, ex_mk (.int .u32 ((mx R.e 6 11 25 : Nat) : Int)) (fun E => ?_) ?_⟩
    · (simp -dsimp only [↓z_ap_cons, ↓z_ap_nil, ↓z_callv, ↓evW_func, ↓z_evL_cons, ↓evW_tmp, ↓lkW_cons, ↓reduceIte, ↓evW_const, ↓constW_int, inR_i64, Int.reduceNeg, Int.reduceLE, and_self, ↓z_evL_nil, ↓z_fun0, ↓z_coeL_cons, ↓z_coe_int, ↓z_coeL_nil, true_and]); (try simp only [Int.toNat_natCast, Nat.mul_one, Bool.or_false, Bool.false_or, Bool.or_self, Bool.or_true])
      exact call_fn (fn_mix GH R.e 6 11 25 (by decide) (by decide) (by decide) (by decide) (by decide) (by decide)) fun _ => ⟨rfl, rfl⟩
    (simp -dsimp only [↓z_put, Nat.reduceLT, ↓z_drwK, ↓z_drw_binOp, ↓z_drwS, ↓z_grd_none, ↓z_withE, ↓z_rd_tmp, ↓lkW_cons, Nat.reduceEqDiff, ↓reduceIte, ↓z_rd_nil, ↓z_ap_cons, ↓z_ap_nil, ↓z_or_binOp, ↓z_binOp, ↓evW_tmp, ↓z_bn_add, ↓wrW_u32, u32_add, hR, and_true, ↓z_exD_all, ↓z_exD_eq, ↓z_drw_indexAddr, ↓z_rd_const, ↓z_or_indexAddr, ↓z_indexAddr, ↓evW_const, ↓constW_int, inR_i64, Int.reduceNeg, Int.reduceLE, and_self, ↓y_ty123, ↓z_elTy_arr, ↓y_sz98, ↓z_ix_ptr, Int.reduceToNat, Nat.mul_one, Nat.zero_add, true_and, ↓z_exD_and, ↓z_drw_load, ↓z_or_load, ↓z_load, ↓y_ty98, ↓z_agTy_int, ↓loadW_ptr, ↓lkoW_cons, ↓z_rd_f, ↓nthW_cons, reduceCtorEq, Nat.reduceSub, ↓z_bn_and, u32_and, ↓z_drw_unOp, ↓z_or_unOp, ↓z_unOp, ↓z_un_xor, u32_un, ↓z_bn_xor, u32_xor, ↓z_drw_move, ↓z_or_move, ↓z_move, kt_at, ↓y_ty121, ↓z_nth_int, sch_at, hz, ↓z_exD_ex, ↓z_drw_assign, ↓z_or_assign, ↓z_assign, ↓z_drw_nil, ↓z_seq_nrm, ↓z_seq, ↓z_region_d, ↓y_mix]); (try simp only [Int.toNat_natCast])
    refine ⟨by omega, by omega, by omega, by omega, by omega, by omega, by omega, ?_⟩
    refine rgn_d (by decide +kernel) ?_
    (simp -dsimp only [↓z_drw_indexAddr, ↓z_drwS, ↓z_grd_none, ↓z_withE, ↓z_rd_tmp, ↓lkW_cons, Nat.reduceEqDiff, ↓reduceIte, ↓z_rd_const, ↓z_rd_nil, ↓z_ap_cons, ↓z_ap_nil, ↓z_or_indexAddr, ↓z_indexAddr, ↓evW_tmp, ↓evW_const, ↓constW_int, inR_i64, Int.reduceNeg, Int.reduceLE, and_self, ↓y_ty123, ↓z_elTy_arr, ↓y_sz98, ↓z_ix_ptr, Int.reduceToNat, Nat.mul_one, Nat.zero_add, hR, and_true, true_and, ↓z_exD_all, ↓z_exD_and, ↓z_exD_eq, ↓z_put, Nat.reduceLT, ↓z_drwK, ↓z_drw_load, ↓z_or_load, ↓z_load, ↓y_ty98, ↓z_agTy_int, ↓loadW_ptr, ↓lkoW_cons, ↓z_rd_f, ↓nthW_cons, ↓z_drw_callv, ↓z_rd_func]); (try simp only [Int.toNat_natCast, Nat.mul_one, Bool.or_false, Bool.false_or, Bool.or_self, Bool.or_true])
    refine ⟨by omega, ex_mk (.int .u32 ((mx R.a 2 13 22 : Nat) : Int)) (fun E => ?_) ?_⟩
    · (simp -dsimp only [↓z_ap_cons, ↓z_ap_nil, ↓z_callv, ↓evW_func, ↓z_evL_cons, ↓evW_tmp, ↓lkW_cons, ↓reduceIte, ↓evW_const, ↓constW_int, inR_i64, Int.reduceNeg, Int.reduceLE, and_self, ↓z_evL_nil, ↓z_fun0, ↓z_coeL_cons, ↓z_coe_int, ↓z_coeL_nil, true_and]); (try simp only [Int.toNat_natCast, Nat.mul_one, Bool.or_false, Bool.false_or, Bool.or_self, Bool.or_true])
      exact call_fn (fn_mix GH R.a 2 13 22 (by decide) (by decide) (by decide) (by decide) (by decide) (by decide)) fun _ => ⟨rfl, rfl⟩
    (simp -dsimp only [↓z_put, Nat.reduceLT, ↓z_drwK, ↓z_drw_indexAddr, ↓z_drwS, ↓z_grd_none, ↓z_withE, ↓z_rd_tmp, ↓lkW_cons, Nat.reduceEqDiff, ↓reduceIte, ↓z_rd_const, ↓z_rd_nil, ↓z_ap_cons, ↓z_ap_nil, ↓z_or_indexAddr, ↓z_indexAddr, ↓evW_tmp, ↓evW_const, ↓constW_int, inR_i64, Int.reduceNeg, Int.reduceLE, and_self, ↓y_ty123, ↓z_elTy_arr, ↓y_sz98, ↓z_ix_ptr, Int.reduceToNat, Nat.mul_one, Nat.zero_add, hR, and_true, true_and, ↓z_exD_all, ↓z_exD_and, ↓z_exD_eq, ↓z_drw_load, ↓z_or_load, ↓z_load, ↓y_ty98, ↓z_agTy_int, ↓loadW_ptr, ↓lkoW_cons, ↓z_rd_f, ↓nthW_cons, reduceCtorEq, Nat.reduceSub, ↓z_drw_binOp, ↓z_or_binOp, ↓z_binOp, ↓z_bn_and, u32_and, ↓z_bn_xor, u32_xor, ↓z_bn_add, ↓wrW_u32, u32_add, ↓z_drw_assign, ↓z_or_assign, ↓z_assign, ↓z_drw_nil, ↓z_seq_nrm, ↓z_seq, ↓z_region, ↓z_ops_plain, ↓z_move, ↓z_build, ↓z_blTy_arr, ↓y_zr123, ↓z_bld_cons, ↓z_cl_int, List.length_cons, List.length_nil, Nat.reduceAdd, Nat.reduceLeDiff, ↓spsW_cons, ↓drW_cons, ↓catW_cons, ↓catW_nil, ↓drW_nil, ↓z_cat_nil_r, ↓z_bld_nil, ↓z_store, ↓y_sz123, ↓z_cl_oag, ↓z_store_ptr, ↓z_so_cons, ↓z_put_none, ↓z_ops_nil, ↓z_blk_nrm, ↓wrW_i64, ↓z_lp_nrm, ↓z_wk, ↓z_wkE_cons, D.int.injEq, ↓z_wkE_nil, ↓z_wkO_cons, List.cons.injEq, ↓z_wkO_nil]); (try simp only [Int.toNat_natCast, Nat.mul_one, Bool.or_false, Bool.false_or, Bool.or_self, Bool.or_true])
    have hs : rnds s (sch b 64) (t + 1) = rnd R (kt.getD t 0) ((sch b 64).getD t 0) := by rw [rnds, hR]
    refine ⟨by omega, by omega, by omega, by omega, by omega, by omega, by omega, by omega, by omega, by omega, by omega, by omega, by omega, by omega, t + 1, by omega, by omega, by omega, ?_⟩
    rw [hs]
    exact ⟨⟨rfl, rfl, rfl, rfl⟩, rfl, rfl, rfl, rfl⟩
  · have ht : t = 64 := by omega
    subst ht
    obtain ⟨V, hV⟩ : ∃ V, rnds s (sch b 64) 64 = V := ⟨_, rfl⟩
    have hl := fun i => show (wI (adL s V i)).length = 8 from rfl
    have h4 : (wI [V.a, V.b, V.c, V.d]).length = 4 := rfl
    have h4' : (wI [V.e, V.f, V.g, V.h]).length = 4 := rfl
    refine hold_intro ⟨[], Nat, fun i => ⟨116, 5, [(94, .int .i64 i), (7, .ptr 4 0), (6, .ptr 3 0), (4, .ptr 1 0), (2, .ptr 0 0)],
      [(4, (wI [V.e, V.f, V.g, V.h]).map (D.int .u32)), (3, (wI [V.a, V.b, V.c, V.d]).map (D.int .u32)),
       (1, (wI [0, 0, 0, 0, 0, 0, 0, 0]).map (D.int .u32)), (0, (wI (adL s V i)).map (D.int .u32))]⟩, fun i => i ≤ 4, fun i => 4 - i, ?_, ?_⟩
    · (simp -dsimp only [↓z_ad_nil, ↓z_wk, ↓z_wkE_cons, ↓lkW_cons, ↓reduceIte, D.int.injEq, true_and, Nat.reduceEqDiff, ↓z_wkE_nil, and_self, and_true, ↓z_wkO_cons, ↓lkoW_cons, hV, reduceCtorEq, ↓z_wkO_nil]); (try simp only [Int.toNat_natCast, Nat.mul_one, Bool.or_false, Bool.false_or, Bool.or_self, Bool.or_true])
      exact ⟨0, by omega, rfl, rfl, rfl, rfl, rfl⟩
    rintro i hi
    (simp -dsimp only [↓z_seq, ↓z_region, ↓z_ops_plain, ↓z_binOp, ↓evW_tmp, ↓lkW_cons, ↓reduceIte, ↓evW_const, ↓constW_int, inR_i64, Int.reduceNeg, Int.reduceLE, and_self, ↓z_bn_lss, ↓z_put, Nat.reduceLT, ↓z_ops_nil, ↓z_seq_nrm, ↓z_cond, ↓z_cnd, ↓z_gdt, ↓z_skip, ↓z_block, ↓z_move, Nat.reduceEqDiff, ↓z_assign, ↓z_region_d, ↓y_mix, true_and, ↓z_exit, ↓z_seq_ext, ↓z_lp_ext, ↓z_blk_ext, ↓z_load, ↓y_ty99, ↓y_sz99, ↓z_agTy_arr, ↓loadW_ptr, ↓lkoW_cons, reduceCtorEq, ↓z_rd_t, Nat.zero_add, List.length_map, hl, Nat.reduceLeDiff, ↓z_sub_map, ↓z_store, ↓z_cl_oag, List.length_take, List.length_drop, Nat.reduceSub, ↓z_store_ptr, ↓z_sps_map, ↓z_so_cons, ↓z_put_none, ↓z_ret, ↓z_end_rt, resLW, res1W, ↓z_coeL_cons, ↓z_coeL_nil, ↓z_pack1, List.length_append, ↓z_coe_oag, D.agg.injEq, z_ite]); (try simp only [Int.toNat_natCast, Nat.mul_one, Bool.or_false, Bool.false_or, Bool.or_self, Bool.or_true])
    refine ⟨fun hi4 => rgn_d (by decide +kernel) ?_, fun hi4 => ?_⟩
    · (simp -dsimp only [↓z_drw_move, ↓z_drwS, ↓z_grd_none, ↓z_withE, ↓z_rd_tmp, ↓lkW_cons, ↓reduceIte, ↓z_rd_nil, ↓z_ap_cons, ↓z_ap_nil, ↓z_or_move, ↓z_move, ↓evW_tmp, and_true, ↓z_exD_all, ↓z_exD_eq, ↓z_put, Nat.reduceLT, ↓z_drwK, ↓z_drw_indexAddr, Nat.reduceEqDiff, ↓z_or_indexAddr, ↓z_indexAddr, ↓y_ty99, ↓z_elTy_arr, ↓y_sz98, ↓z_ix_ptr, Nat.mul_one, Nat.zero_add, ↓z_exD_and, ↓z_drw_load, ↓z_or_load, ↓z_load, ↓y_ty98, ↓z_agTy_int, ↓loadW_ptr, ↓lkoW_cons, reduceCtorEq, ↓z_rd_f, ↓z_nth_int, hl, ↓z_exD_ex, ↓y_ty123, h4, ↓z_drw_binOp, ↓z_or_binOp, ↓z_binOp, ↓z_bn_add, ↓wrW_u32, ↓z_drw_store, ↓z_ops_plain, ↓z_store, ↓z_cl_int, List.length_cons, List.length_nil, ↓z_store_ptr, List.length_map, Nat.reduceLeDiff, ↓z_sps_int, ↓z_so_cons, ↓z_put_none, ↓z_ops_nil, ↓z_seq_nrm, ↓z_region_d, ↓y_mix, true_and]); (try simp only [Int.toNat_natCast])
      refine ⟨by omega, by omega, by omega, by omega, by omega, by omega, by omega, by omega, by omega, rgn_d (by decide +kernel) ?_⟩
      (simp -dsimp only [↓z_drw_move, ↓z_drwS, ↓z_grd_none, ↓z_withE, ↓z_rd_tmp, ↓lkW_cons, Nat.reduceEqDiff, ↓reduceIte, ↓z_rd_nil, ↓z_ap_cons, ↓z_ap_nil, ↓z_or_move, ↓z_move, ↓evW_tmp, and_true, ↓z_exD_all, ↓z_exD_eq, ↓z_put, Nat.reduceLT, ↓z_drwK, ↓z_drw_binOp, ↓z_rd_const, ↓z_or_binOp, ↓z_binOp, ↓evW_const, ↓constW_int, inR_i64, Int.reduceNeg, Int.reduceLE, and_self, ↓z_bn_add, ↓wrW_i64, true_and, ↓z_exD_and, ↓z_drw_indexAddr, ↓z_or_indexAddr, ↓z_indexAddr, ↓y_ty99, ↓z_elTy_arr, ↓y_sz98, ↓z_ix_ptr, Nat.mul_one, Nat.zero_add, ↓z_drw_load, ↓z_or_load, ↓z_load, ↓y_ty98, ↓z_agTy_int, ↓loadW_ptr, ↓lkoW_cons, reduceCtorEq, ↓z_rd_f, ↓z_nth_int, List.length_append, List.length_take, hl, List.length_cons, List.length_nil, List.length_drop, ↓z_exD_ex, ↓y_ty123, h4', ↓wrW_u32, ↓z_drw_store, ↓z_ops_plain, ↓z_store, ↓z_cl_int, ↓z_store_ptr, List.length_map, ↓z_sps_int, ↓z_so_cons, ↓z_put_none, ↓z_ops_nil, ↓z_blk_nrm, ↓z_seq_nrm, ↓z_region, ↓z_lp_nrm, ↓z_wk, ↓z_wkE_cons, D.int.injEq, ↓z_wkE_nil, ↓z_wkO_cons, ↓z_wkO_nil]); (try simp only [Int.toNat_natCast])
      refine ⟨by omega, by omega, by omega, by omega, by omega, by omega, by omega, by omega, by omega, by omega, by omega, i + 1, by omega, by omega, by omega, ?_⟩
      rcases (by omega : i = 0 ∨ i = 1 ∨ i = 2 ∨ i = 3) with rfl | rfl | rfl | rfl
      all_goals simp [wI, adL, u32_add]
    · have : i = 4 := by omega
      subst this
      (simp -dsimp only [List.drop_zero, List.take_zero, List.nil_append, coe_int]); (try simp only [Int.toNat_natCast, Nat.mul_one, Bool.or_false, Bool.false_or, Bool.or_self, Bool.or_true])
      have hc : cmp8 s b = s8add s V := by unfold cmp8; rw [hV]
      rw [hc]
      exact ⟨by decide, by decide, by decide, rfl⟩
end Go.Abs
end
section
namespace Go.Abs
open Go.Proofs
def strZ : Str := ⟨⟨0, 0, 0, 0, 0, 0, 0, 0⟩, List.replicate 64 0, 0⟩
set_option maxRecDepth 100000 in
set_option maxHeartbeats 8000000 in
theorem fn_Begin (G : Glob) : Fn G Tryd.prog 52 [] (.agg (strC str0)) := by
  refine Fn.mk (c := _) Tryd.func52 rfl rfl Tryd.ntmps52 Tryd.results52 ?_
  (simp -dsimp only [bodyW, List.length_nil, Nat.reduceLeDiff, wfL, ↓z_seq, ↓z_region, ↓z_ops_plain, ↓z_alloc, ↓y_zr103, ↓z_new, ↓z_nm_nil, Nat.reduceLT, ↓z_pg_env0, ↓z_put, ↓z_ops_nil, ↓z_seq_nrm, ↓z_build, ↓y_ty99, ↓z_blTy_arr, ↓y_zr99, ↓y_sz98, ↓z_bld_cons, ↓evW_const, ↓constW_int, inR_u32, Int.reduceLE, and_self, ↓z_cl_int, List.length_cons, Nat.zero_add, Nat.mul_one, Nat.reduceAdd, ↓spsW_cons, ↓reduceIte, ↓drW_cons, reduceCtorEq, Nat.reduceSub, ↓catW_cons, ↓catW_nil, ↓drW_nil, ↓z_cat_nil_r, ↓z_bld_nil, ↓y_ty103, ↓z_blTy_st, ↓y_fl103x0, ↓y_sz99, ↓evW_tmp, ↓lkW_cons, ↓z_cl_oag, ↓z_store, ↓y_sz103, ↓z_store_ptr, ↓lkoW_cons, ↓z_so_cons, ↓z_put_none, ↓z_ret, ↓z_end_rt, resLW, res1W, ↓z_agTy_st, ↓z_coeL_cons, ↓z_coeL_nil, ↓z_pack1, ↓loadW_ptr, ↓z_rd_t, ↓z_sub_c, ↓z_sub_nil, ↓z_coe_oag, ↓z_coeC_cons, ↓z_coeS_int, ↓z_coeC_nil, D.agg.injEq, true_and]); (try simp only [Int.toNat_natCast, Nat.mul_one, Bool.or_false, Bool.false_or, Bool.or_self, Bool.or_true])
  exact ⟨by decide +kernel, rfl⟩
set_option maxRecDepth 100000 in
set_option maxHeartbeats 8000000 in
theorem fn_Add (s : Str) (hb : s.blk.length = 64) (m : List UInt8) (hn : s.n + m.length ≤ 1000000000000000000) : Fn GH Tryd.prog 53 [.agg (strC s), .str m] (.agg (strC (addS s m))) := by
  refine Fn.mk (c := _) Tryd.func53 rfl rfl Tryd.ntmps53 Tryd.results53 ?_
  (simp -dsimp only [bodyW, List.length_cons, List.length_nil, Nat.zero_add, Nat.reduceAdd, Nat.reduceLeDiff, wfL, ↓z_seq, ↓z_region, ↓z_ops_plain, ↓z_box, ↓evW_tmp, ↓z_lk_env, ↓reduceIte, ↓z_cl_agg, nmC_str, ↓z_new, ↓z_nm_nil, Nat.reduceLT, ↓z_pg_env, ↓z_mn_agg, ↓z_mn_str, ↓z_pg_env0, ↓z_put, ↓z_alloc, ↓y_zr103, ↓z_nm_cons, ↓z_pg_cons, ↓z_mn_ptr, reduceCtorEq, ↓z_pg_nil, ↓z_ops_nil, ↓z_seq_nrm, ↓z_block, ↓z_loop, true_and])
  intro _ _
  refine hold_intro ⟨[], Nat, fun j => ⟨38, 2, [(1, .str (m.drop j)), (2, .ptr 0 0), (4, .ptr 1 0)], [(1, strC strZ), (0, strC (addS s (m.take j)))]⟩, fun j => j ≤ m.length, fun j => m.length - j, ?_, ?_⟩
  · (simp -dsimp only [↓z_ad_nil, ↓z_wk, ↓z_wkE_cons, ↓lkW_cons, Nat.reduceEqDiff, ↓reduceIte, reduceCtorEq, Nat.zero_add, D.str.injEq, ↓z_wkE_nil, and_self, and_true, ↓z_wkO_cons, ↓lkoW_cons, ↓z_wkO_nil, true_and]); (try simp only [Int.toNat_natCast, Nat.mul_one, Bool.or_false, Bool.false_or, Bool.or_self, Bool.or_true])
    exact ⟨0, by omega, rfl, rfl, rfl⟩
  rintro j hj
  obtain ⟨S, hS⟩ : ∃ S, addS s (m.take j) = S := ⟨_, rfl⟩
  have hSb : S.blk.length = 64 := by rw [← hS, addS_blk, hb]
  have hSn : S.n = s.n + j := by rw [← hS, addS_n, List.length_take]; omega
  have q1 := strC_n hSb
  (simp -dsimp only [↓z_seq, ↓z_region, ↓z_ops_plain, ↓z_move, ↓evW_tmp, ↓lkW_cons, ↓reduceIte, ↓z_put, Nat.reduceLT, ↓z_binOp, ↓evW_const, ↓constW_string, List.length_nil, maxLen_lit, Nat.reduceLeDiff, ↓z_bn_sneq, ↓z_ops_nil, ↓z_seq_nrm, ↓z_cond, ↓z_cnd, ↓z_gdt, ne_eq, ↓z_skip, ↓z_block, ↓z_fieldAddr, Nat.reduceEqDiff, ↓y_fl103x2, ↓y_sz101, reduceCtorEq, not_false_eq_true, ↓z_fa_ptr, ↓z_load, ↓y_ty101, ↓z_agTy_int, ↓loadW_ptr, ↓lkoW_cons, ↓z_rd_f, hS, Nat.zero_add, ↓constW_int, inR_u64, Int.reduceLE, and_self, ↓z_convert, ↓y_ty3, ↓z_cvt_int, ↓z_assign, ↓y_fl103x1, ↓y_sz100, ↓z_slice, ↓z_evO_some, ↓z_evO_none, ↓z_bo_none, ↓y_ty100, ↓z_seTy_arr, ↓y_sz5, ↓z_callb, ↓z_evL_cons, ↓z_evL_nil, ↓z_copy, ↓y_ty27, ↓z_slTy, ↓y_ty9, ↓z_seTy_str, ↓z_store, ↓z_put_none, inR_i64, Int.reduceNeg, ↓z_region_d, ↓y_mix, true_and, ↓z_blk_nrm, ↓z_lp_nrm, q1, ↓z_bn_rem, ↓z_rem_u64, Int.reduceEq, ↓z_cv_int, ↓z_cvi_u64_i64, ↓z_bo_some, ↓z_slc_ptr_ln, Nat.mul_one, Nat.reduceAdd, ↓z_src_str, ↓z_cpy_osw, ↓z_spl, List.length_drop, List.length_take, List.length_map, ↓z_so_cons, ↓z_slc_str_ln, ↓z_cvi_i64_u64, ↓z_store_ptr, ↓z_bn_add, ↓wrW_i64, ↓z_bn_eql, ↓z_wk, ↓z_wkE_cons, D.str.injEq, ↓z_wkE_nil, and_true, ↓z_wkO_cons, ↓z_wkO_nil, z_ite, z_sps, List.length_append, ↓z_exit, ↓z_seq_ext, ↓z_lp_ext, ↓z_blk_ext, ↓y_ty103, ↓y_sz103, ↓z_agTy_st, ↓z_rd_t, ↓z_cl_oag, ↓z_ret, ↓z_end_rt, resLW, res1W, ↓z_coeL_cons, ↓z_coeL_nil, ↓z_pack1, ↓z_coe_oag, D.agg.injEq, z_sub, Classical.not_not]); (try simp only [Int.toNat_natCast])
  refine ⟨fun hne => ?_, fun he => ?_⟩
  · have hjl : j < m.length := by
      rcases Nat.lt_or_ge j m.length with h | h
      · exact h
      · exact absurd (List.drop_of_length_le h) hne
    have e1 : IntKind.i64.wrap ((S.n : Int) % 64) = ((S.n % 64 : Nat) : Int) := by rw [IntKind.wrap_i64]; omega
    obtain ⟨A, hA⟩ : ∃ A, S.n % 64 = A := ⟨_, rfl⟩
    have hA64 : A < 64 := by omega
    obtain ⟨K, hK⟩ : ∃ K, min (m.length - j) (64 - A) = K := ⟨_, rfl⟩
    have hK0 : 0 < K ∧ K ≤ 64 - A ∧ K ≤ m.length - j := by omega
    have e2 : min K (m.length - j) = K := by omega
    obtain ⟨c, hc⟩ : ∃ c, (m.drop j).take K = c := ⟨_, rfl⟩
    have hcl : c.length = K := by rw [← hc, List.length_take, List.length_drop]; omega
    obtain ⟨B, hB⟩ : ∃ B, S.blk.take A ++ c ++ S.blk.drop (A + K) = B := ⟨_, rfl⟩
    have hBl : B.length = 64 := by rw [← hB]; simp; omega
    have q2 : (strC S).take (8 + A) ++ ((m.drop j).map bD).take K ++ (strC S).drop (8 + A + K) = strC ⟨S.st, B, S.n⟩ := by
      rw [← List.map_take, hc, ← hcl, strC_setB hSb (by omega), hcl, hB]
    have q3 := strC_n (s := ⟨S.st, B, S.n⟩) hBl
    have e3 : IntKind.u64.wrap (K : Int) = (K : Int) := by rw [IntKind.wrap_u64]; omega
    have e4 : IntKind.u64.wrap ((S.n : Int) + (K : Int)) = ((S.n + K : Nat) : Int) := by rw [IntKind.wrap_u64]; omega
    have q4 : (strC ⟨S.st, B, S.n⟩).take 72 ++ [D.int .u64 ((S.n + K : Nat) : Int)] ++ (strC ⟨S.st, B, S.n⟩).drop 73 = strC ⟨S.st, B, S.n + K⟩ := strC_setN (s := ⟨S.st, B, S.n⟩) hBl (S.n + K)
    have l1 := strC_len hSb
    have l2 := strC_len (s := ⟨S.st, B, S.n⟩) hBl
    have l3 := strC_len (s := ⟨S.st, B, S.n + K⟩) hBl
    rw [e1, hA, Int.toNat_natCast, hK, e2, l1, q2, q3]
    refine ⟨by omega, by omega, by omega, by omega, by omega, by omega, ?_⟩
    (simp -dsimp only [↓z_bn_add, ↓wrW_u64, ↓z_cl_int, e3, e4, List.length_cons, List.length_nil, Nat.zero_add, Int.reduceNeg, q4, true_and])
    have hstep : addS s (m.take (j + K)) = ⟨if A + K = 64 then cmp8 S.st B else S.st, B, S.n + K⟩ := by
      rw [List.take_add, addS_app, hS, hc, addS_piece c S hSb (by omega) (by rw [hA, hcl]; omega), hA, hcl, hB]
    have hdrop : List.take (m.length - j - K) (List.drop K (List.drop j m)) = List.drop (j + K) m := by
      rw [List.drop_drop, List.take_of_length_le (by rw [List.length_drop]; omega)]
    refine ⟨by omega, by omega, fun h64 => ?_, fun h64 => ⟨j + K, by omega, by omega, hdrop, by rw [hstep, if_neg (by omega)]⟩⟩
    refine rgn_d (by decide +kernel) ?_
    have q5 := strC_st ⟨S.st, B, S.n + K⟩
    have q6 := strC_blk (s := ⟨S.st, B, S.n + K⟩) hBl
    (simp -dsimp only [↓z_drw_fieldAddr, ↓z_drwS, ↓z_grd_none, ↓z_withE, ↓z_rd_tmp, ↓lkW_cons, Nat.reduceEqDiff, ↓reduceIte, ↓z_rd_nil, ↓z_ap_cons, ↓z_ap_nil, ↓z_or_fieldAddr, ↓z_fieldAddr, ↓evW_tmp, ↓y_fl103x0, ↓y_sz99, ne_eq, reduceCtorEq, not_false_eq_true, ↓z_fa_ptr, Nat.zero_add, e3, e4, Nat.reduceAdd, q4, and_true, true_and, ↓z_exD_all, ↓z_exD_eq, ↓z_put, Nat.reduceLT, ↓z_drwK, ↓z_drw_load, ↓z_or_load, ↓z_load, ↓y_ty99, ↓z_agTy_arr, ↓loadW_ptr, ↓lkoW_cons, ↓z_rd_t, l3, Nat.reduceLeDiff, z_sub, q5, ↓y_fl103x1, ↓y_sz100, ↓z_drw_slice, ↓z_oLn, List.append_nil, List.length_drop, hK, Nat.mul_one, ↓z_or_slice, ↓z_slice, ↓z_evO_none, ↓z_bo_none, ↓y_ty100, ↓z_seTy_arr, ↓y_sz5, ↓z_slc_ptr_nn, maxLen_lit, ↓z_drw_callv, ↓z_rd_func])
    refine ex_mk (.agg (s8C (cmp8 S.st B))) (fun E => ?_) ?_
    · (simp -dsimp only [↓z_ap_cons, ↓z_ap_nil, ↓z_callv, ↓evW_func, ↓z_evL_cons, ↓evW_tmp, ↓lkW_cons, ↓reduceIte, Nat.reduceEqDiff, ↓z_evL_nil, ↓z_fun0, ↓z_coeL_cons, ↓z_coe_oag, e3, e4, Nat.reduceAdd, q4, ↓z_coe_osw, ↓lkoW_cons, reduceCtorEq, ↓z_allP_app, ↓z_allP_cons, ↓z_isP_int, ↓z_allP_nil, and_self, and_true, Nat.mul_one, l3, Nat.reduceLeDiff, ↓z_coeL_nil, z_sub, true_and])
      rw [coe_s8]
      refine ⟨⟨fun c hc => flS_isP (flS_str _ c (List.mem_of_mem_take hc)), fun c hc => flS_isP (flS_str _ c (List.mem_of_mem_drop hc))⟩, ?_⟩
      exact call_fnL ((fn_compress S.st B hBl).inp (by rw [q6])) (flS_s8 _) fun _ => ⟨rfl, rfl⟩
    (simp -dsimp only [↓z_put, Nat.reduceLT, ↓z_drwK, ↓z_drw_fieldAddr, ↓z_drwS, ↓z_grd_none, ↓z_withE, ↓z_rd_tmp, ↓lkW_cons, Nat.reduceEqDiff, ↓reduceIte, ↓z_rd_nil, ↓z_ap_cons, ↓z_ap_nil, ↓z_or_fieldAddr, ↓z_fieldAddr, ↓evW_tmp, ↓y_fl103x0, ↓y_sz99, ne_eq, reduceCtorEq, not_false_eq_true, ↓z_fa_ptr, Nat.zero_add, e3, e4, Nat.reduceAdd, q4, and_true, true_and, ↓z_exD_all, ↓z_exD_eq, ↓z_drw_store, ↓z_ops_plain, ↓z_store, ↓z_cl_agg, ↓z_store_ptr, ↓lkoW_cons, l3, Nat.reduceLeDiff, ↓z_so_cons, ↓z_put_none, ↓z_ops_nil, ↓z_blk_nrm, ↓z_lp_nrm, ↓z_wk, ↓z_wkE_cons, List.length_drop, hK, D.str.injEq, ↓z_wkE_nil, and_self, ↓z_wkO_cons, ↓z_wkO_nil, z_sps]); (try simp only [Int.toNat_natCast, Nat.mul_one, Bool.or_false, Bool.false_or, Bool.or_self, Bool.or_true])
    exact ⟨rfl, j + K, by omega, by omega, hdrop, by rw [strC_setSt, hstep, if_pos (by omega)]⟩
  · have hjm : j = m.length := by
      have := congrArg List.length he
      rw [List.length_drop] at this
      simp at this; omega
    have hSm : addS s m = S := by rw [← hS, hjm, List.take_length]
    have l1 := strC_len hSb
    have l2 : (strC strZ).length = 73 := strC_len rfl
    have t1 : List.take 73 (strC S) = strC S := List.take_of_length_le (by omega)
    have t2 : List.drop 73 (strC strZ) = [] := List.drop_of_length_le (by omega)
    (simp -dsimp only [l1, Nat.reduceLeDiff, Nat.reduceSub, l2, List.drop_zero, t1, List.take_zero, List.nil_append, t2, List.append_nil, coe_str, true_and]); (try simp only [Int.toNat_natCast, Nat.mul_one, Bool.or_false, Bool.false_or, Bool.or_self, Bool.or_true])
    exact ⟨rfl, by decide, by rw [hSm]⟩
end Go.Abs
end
section
namespace Go.Abs
open Go.Proofs
theorem u8_of (x : Nat) : IntKind.u8.wrap (x : Int) = ((UInt8.ofNat x).toNat : Int) := by
  rw [IntKind.wrap_u8, UInt8.toNat_ofNat']; omega
theorem bD_of (x : Nat) : D.int .u8 (IntKind.u8.wrap (x : Int)) = bD (UInt8.ofNat x) := by unfold bD; rw [u8_of]
theorem u64_shr (a n : Nat) (h : n ≤ 64) : shrI .u64 (a : Int) (n : Int) = ((a >>> n : Nat) : Int) := by
  unfold shrI
  rw [show min (n : Int).toNat IntKind.u64.bits = n from by rw [Int.toNat_natCast]; exact Nat.min_eq_left h, Nat.shiftRight_eq_div_pow, Int.natCast_ediv, Int.natCast_pow]
  rfl
/-- The padding so far. -/
def padA (n a : Nat) : List UInt8 := (padL n).take (a + 1)
theorem padL_len (n : Nat) : (padL n).length = zN n + 9 := by simp [padL, b8]
theorem padA_len {n a : Nat} (h : a ≤ zN n + 8) : (padA n a).length = a + 1 := by unfold padA; rw [List.length_take, padL_len]; omega
theorem padA_0 (n : Nat) : padA n 0 = [128] := rfl
theorem padA_z {n a : Nat} (h : a < zN n) : padA n (a + 1) = padA n a ++ [0] := by
  unfold padA
  rw [List.take_add_one]
  congr 1
  simp only [padL, List.getElem?_cons_succ]
  rw [List.getElem?_append_left (by simpa using h)]
  simp [h]
theorem padA_b {n i : Nat} (h : i < 8) : padA n (zN n + i + 1) = padA n (zN n + i) ++ [UInt8.ofNat ((8 * n) >>> (56 - 8 * i))] := by
  unfold padA
  rw [List.take_add_one]
  congr 1
  simp only [padL, List.getElem?_cons_succ]
  rw [List.getElem?_append_right (by simp)]
  simp [b8, h]
theorem padA_end (n : Nat) : padA n (zN n + 8) = padL n := by unfold padA; exact List.take_of_length_le (by rw [padL_len]; omega)
/-- The bytes of the hash so far. -/
def outK (s : S8) (i : Nat) : List UInt8 := (outB s).take i ++ List.replicate (32 - i) 0
theorem outK_len {s : S8} {i : Nat} (h : i ≤ 32) : (outK s i).length = 32 := by simp [outK, outB_len]; omega
theorem outK_s {s : S8} {i : Nat} (h : i < 32) : (outK s i).take i ++ [UInt8.ofNat ((s8L s).getD (i / 4) 0 >>> (24 - 8 * (i % 4)))] ++ (outK s i).drop (i + 1) = outK s (i + 1) := by
  have e : (outB s)[i]? = some (UInt8.ofNat ((s8L s).getD (i / 4) 0 >>> (24 - 8 * (i % 4)))) := by simp [outB, h]
  have l : ((outB s).take i).length = i := by rw [List.length_take, outB_len]; omega
  unfold outK
  rw [List.take_left' l, List.drop_append, List.drop_of_length_le (by omega), l, List.take_add_one, e]
  simp [List.drop_replicate]
  omega
theorem outK_end (s : S8) : outK s 32 = outB s := by unfold outK; rw [List.take_of_length_le (by rw [outB_len]; omega)]; simp
theorem strC_w (s : Str) {i : Nat} (h : i < 8) (k : D → Prop) : nthW (strC s) i k = k (.int .u32 (((s8L s.st).getD i 0 : Nat) : Int)) := by
  rcases (by omega : i = 0 ∨ i = 1 ∨ i = 2 ∨ i = 3 ∨ i = 4 ∨ i = 5 ∨ i = 6 ∨ i = 7) with rfl | rfl | rfl | rfl | rfl | rfl | rfl | rfl <;> exact nthW_iff rfl
theorem pgc_str (id : Nat) (s : Str) (f : List D → Prop) : pgcW id (strC s) f = f (strC s) := z_pgc_nm (of_eq_true (nmC_str id s))
/-- What is shown once serves several ways. -/
theorem merge {X A : Prop} (x : X) (h : (Unit → X) → A) : A := h fun _ => x
/-- The walk's states while the padding grows. -/
def padI (s : Str) (fr : List (Nat × D)) : Nat → St
  | 0 => ⟨58, 2, (4, .slx 1 1 [.int .u8 128]) :: fr, [(1, (List.replicate 32 (0 : UInt8)).map bD), (0, strC s)]⟩
  | a + 1 => ⟨58, 3, (4, .osl 2 1 (a + 2)) :: fr, [(2, (padA s.n (a + 1)).map bD), (1, (List.replicate 32 (0 : UInt8)).map bD), (0, strC s)]⟩
theorem padI0 {s : Str} {fr : List (Nat × D)} : padI s fr 0 = ⟨58, 2, (4, .slx 1 1 [.int .u8 128]) :: fr, [(1, (List.replicate 32 (0 : UInt8)).map bD), (0, strC s)]⟩ := rfl
theorem padIs {s : Str} {fr : List (Nat × D)} {a : Nat} : padI s fr (a + 1) = ⟨58, 3, (4, .osl 2 1 (a + 2)) :: fr, [(2, (padA s.n (a + 1)).map bD), (1, (List.replicate 32 (0 : UInt8)).map bD), (0, strC s)]⟩ := rfl
set_option maxRecDepth 100000 in
set_option maxHeartbeats 8000000 in
theorem fn_Sum (s : Str) (hb : s.blk.length = 64) (hn : s.n ≤ 100000000000000000) : Fn GH Tryd.prog 55 [.agg (strC s)] (.agg ((sumS s).map bD)) := by
  refine Fn.mk (c := _) Tryd.func55 rfl rfl Tryd.ntmps55 Tryd.results55 ?_
  have q1 := strC_n hb
  (simp -dsimp only [bodyW, List.length_cons, List.length_nil, Nat.zero_add, Nat.reduceLeDiff, wfL, ↓z_seq, ↓z_region, ↓z_ops_plain, ↓z_box, ↓evW_tmp, ↓z_lk_env, ↓reduceIte, ↓z_cl_agg, nmC_str, ↓z_new, ↓z_nm_nil, Nat.reduceLT, ↓z_pg_env, ↓z_mn_agg, ↓z_pg_env0, ↓z_put, ↓z_alloc, ↓y_zr107, ↓z_nm_cons, ↓z_pg_cons, ↓z_mn_ptr, reduceCtorEq, ↓z_pg_nil, ↓z_ops_nil, ↓z_seq_nrm, ↓z_fieldAddr, ↓lkW_cons, Nat.reduceEqDiff, ↓y_fl103x2, ↓y_sz101, ne_eq, not_false_eq_true, ↓z_fa_ptr, ↓z_load, ↓y_ty101, ↓z_agTy_int, ↓loadW_ptr, ↓lkoW_cons, ↓z_rd_f, ↓z_binOp, ↓evW_const, ↓constW_int, inR_u64, Int.reduceLE, and_self, ↓z_assign, ↓z_buildSlice, ↓y_ty27, ↓z_slTy, ↓y_sz5, Nat.mul_one, maxLen_lit, ↓y_zr5, ↓z_repL_s, ↓z_repL_0, ↓z_cat_nil_r, ↓z_bld_cons, inR_u8, ↓z_cl_int, ↓spsW_cons, ↓drW_cons, ↓drW_nil, ↓z_bld_nil, ↓z_allP_cons, ↓z_isP_int, ↓z_allP_nil, ↓z_block, ↓z_loop, true_and, q1, ↓z_bn_mul, ↓wrW_u64])
  intro _
  have e8 : IntKind.u64.wrap (8 * (s.n : Int)) = ((8 * s.n : Nat) : Int) := by rw [IntKind.wrap_u64]; omega
  have l1 := strC_len hb
  have e9 : IntKind.i64.wrap (s.n : Int) = (s.n : Int) := by rw [IntKind.wrap_i64]; omega
  refine hold_intro ⟨[], Nat, fun a => padI s [(3, .int .u64 ((8 * s.n : Nat) : Int)), (1, .ptr 0 0), (2, .ptr 1 0)] a, fun a => a ≤ zN s.n, fun a => zN s.n - a, ?_, ?_⟩
  · refine ⟨0, Nat.zero_le _, ?_⟩
    show wkW _ (padI s _ 0)
    rw [padI0]
    (simp -dsimp only [↓z_wk, ↓z_wkE_cons, ↓lkW_cons, ↓reduceIte, Nat.reduceEqDiff, e8, Nat.zero_add, ↓z_wkE_nil, and_self, ↓z_wkO_cons, ↓lkoW_cons, reduceCtorEq, ↓z_wkO_nil, and_true, true_and]); (try simp only [Int.toNat_natCast, Nat.mul_one, Bool.or_false, Bool.false_or, Bool.or_self, Bool.or_true])
    exact rfl
  have hz : zN s.n = (119 - s.n % 64) % 64 := rfl
  have em : ∀ k : Nat, ((s.n : Int) + (k : Int)).tmod 64 = (((s.n + k) % 64 : Nat) : Int) := fun k => by rw [Int.tmod_eq_emod_of_nonneg (by omega)]; omega
  apply merge
  rotate_left
  · intro key
    rintro a ha
    cases a with
    | zero =>
      show codeW _ _ _ (padI s _ 0) _
      rw [padI0]
      (simp -dsimp only [↓z_seq, ↓z_region, ↓z_ops_plain, ↓z_fieldAddr, ↓evW_tmp, ↓lkW_cons, Nat.reduceEqDiff, ↓reduceIte, ↓y_fl103x2, ↓y_sz101, ne_eq, reduceCtorEq, not_false_eq_true, ↓z_fa_ptr, ↓z_put, Nat.reduceLT, ↓z_load, ↓y_ty101, ↓z_agTy_int, ↓loadW_ptr, ↓lkoW_cons, ↓z_rd_f, Nat.zero_add, ↓z_convert, ↓y_ty3, ↓z_cvt_int, ↓z_move, ↓z_callb, ↓z_evL_cons, ↓z_evL_nil, ↓z_len, ↓y_ty27, ↓z_binOp, ↓evW_const, ↓constW_int, inR_i64, Int.reduceNeg, Int.reduceLE, and_self, ↓z_ops_nil, ↓z_seq_nrm, ↓z_cond, ↓z_skip, ↓z_block, ↓z_buildSlice, ↓z_slTy, ↓y_sz5, Nat.mul_one, Nat.reduceLeDiff, maxLen_lit, ↓y_zr5, List.length_cons, List.length_nil, ↓z_repL_s, ↓z_repL_0, ↓z_cat_nil_r, ↓z_bld_cons, inR_u8, ↓z_cl_int, ↓spsW_cons, ↓drW_cons, ↓drW_nil, ↓z_bld_nil, ↓z_allP_cons, ↓z_isP_int, ↓z_allP_nil, ↓z_append, ↓z_nint_sl, ↓y_by5, ↓z_assign, ↓z_blk_nrm, ↓z_lp_nrm, true_and, ↓z_exit, ↓z_seq_ext, ↓z_lp_ext, ↓z_blk_ext, ↓z_loop, q1, ↓z_cv_int, ↓z_cvi_u64_i64, ↓z_ln_slx, ↓z_bn_add, ↓wrW_i64, e9, ↓z_bn_rem, ↓z_rem_i64, Int.reduceEq, ↓z_bn_neq, ↓z_cnd, ↓z_gdt, em, ↓z_src_slx, ↓z_app_slx, ↓z_room, Nat.reduceAdd, ↓z_new, ↓z_nm_cons, ↓z_nmC_bytes, nmC_str, ↓z_nm_nil, ↓z_pg_cons, ↓z_mn_slx, ↓z_mn_bool, ↓z_mn_int, ↓z_mn_ptr, ↓z_pg_nil, z_ite, Classical.not_not])
      refine ⟨by omega, fun hc => .inr (.inl ⟨1, by omega, by omega, ?_⟩), fun hc => ?_⟩
      · rw [padIs]
        (simp -dsimp only [↓z_wk, ↓z_wkE_cons, ↓lkW_cons, ↓reduceIte, Nat.zero_add, Nat.reduceEqDiff, ↓z_wkE_nil, and_self, ↓z_wkO_cons, ↓lkoW_cons, reduceCtorEq, ↓z_wkO_nil, and_true, true_and]); (try simp only [Int.toNat_natCast, Nat.mul_one, Bool.or_false, Bool.false_or, Bool.or_self, Bool.or_true])
        rw [padA_z (a := 0) (by omega), padA_0]; rfl
      · refine hold_intro ⟨[], Nat, fun i => padI s [(3, .int .u64 ((8 * s.n : Nat) : Int)), (23, .int .i64 i), (1, .ptr 0 0), (2, .ptr 1 0)] (zN s.n + i), fun i => i ≤ 8, fun i => 8 - i, ?_, key ()⟩
        refine ⟨0, Nat.zero_le _, ?_⟩
        have e0 : zN s.n + 0 = 0 := by omega
        show wkW _ (padI s _ (zN s.n + 0))
        rw [e0, padI0]
        (simp -dsimp only [↓z_wk, ↓z_wkE_cons, ↓lkW_cons, Nat.reduceEqDiff, ↓reduceIte, D.int.injEq, true_and, ↓z_wkE_nil, and_self, and_true, ↓z_wkO_cons, ↓lkoW_cons, reduceCtorEq, ↓z_wkO_nil]); (try simp only [Int.toNat_natCast, Nat.mul_one, Bool.or_false, Bool.false_or, Bool.or_self, Bool.or_true])
        rfl
    | succ a =>
      show codeW _ _ _ (padI s _ (a + 1)) _
      rw [padIs]
      have la := padA_len (n := s.n) (a := a + 1) (by omega)
      (simp -dsimp only [↓z_seq, ↓z_region, ↓z_ops_plain, ↓z_fieldAddr, ↓evW_tmp, ↓lkW_cons, Nat.reduceEqDiff, ↓reduceIte, ↓y_fl103x2, ↓y_sz101, ne_eq, reduceCtorEq, not_false_eq_true, ↓z_fa_ptr, ↓z_put, Nat.reduceLT, ↓z_load, ↓y_ty101, ↓z_agTy_int, ↓loadW_ptr, ↓lkoW_cons, ↓z_rd_f, Nat.zero_add, ↓z_convert, ↓y_ty3, ↓z_cvt_int, ↓z_move, ↓z_callb, ↓z_evL_cons, ↓z_evL_nil, ↓z_len, ↓y_ty27, ↓z_binOp, ↓evW_const, ↓constW_int, inR_i64, Int.reduceNeg, Int.reduceLE, and_self, ↓z_ops_nil, ↓z_seq_nrm, ↓z_cond, ↓z_skip, ↓z_block, ↓z_buildSlice, ↓z_slTy, ↓y_sz5, Nat.mul_one, Nat.reduceLeDiff, maxLen_lit, ↓y_zr5, List.length_cons, List.length_nil, ↓z_repL_s, ↓z_repL_0, ↓z_cat_nil_r, ↓z_bld_cons, inR_u8, ↓z_cl_int, ↓spsW_cons, ↓drW_cons, ↓drW_nil, ↓z_bld_nil, ↓z_allP_cons, ↓z_isP_int, ↓z_allP_nil, ↓z_append, ↓z_nint_sl, ↓y_by5, ↓z_assign, ↓z_blk_nrm, ↓z_lp_nrm, true_and, ↓z_exit, ↓z_seq_ext, ↓z_lp_ext, ↓z_blk_ext, ↓z_loop, q1, ↓z_cv_int, ↓z_cvi_u64_i64, ↓z_ln_osl, ↓z_bn_add, ↓wrW_i64, e9, ↓z_bn_rem, ↓z_rem_i64, Int.reduceEq, ↓z_bn_neq, ↓z_cnd, ↓z_gdt, em, ↓z_src_slx, ↓z_app_osl, List.length_map, la, ↓z_nmC_bytes, ↓z_room, ↓z_pgo_cons, ↓z_pgc_nm, ↓z_pgo_nil, ↓z_pg_cons, ↓z_mn_slx, ↓z_mn_osl, ↓z_mn_bool, ↓z_mn_int, ↓z_mn_ptr, ↓z_pg_nil, ↓z_so_cons, pgc_str, z_ite, Classical.not_not])
      refine ⟨by omega, fun hc => ⟨by omega, by omega, a + 2, by omega, by omega, ?_⟩, fun hc => ?_⟩
      · rw [padIs]
        (simp -dsimp only [↓z_wk, ↓z_wkE_cons, ↓lkW_cons, ↓reduceIte, Nat.reduceEqDiff, ↓z_wkE_nil, and_self, ↓z_wkO_cons, ↓lkoW_cons, reduceCtorEq, ↓z_wkO_nil, and_true, true_and]); (try simp only [Int.toNat_natCast, Nat.mul_one, Bool.or_false, Bool.false_or, Bool.or_self, Bool.or_true])
        rw [padA_z (a := a + 1) (by omega), List.map_append]; rfl
      · refine hold_intro ⟨[], Nat, fun i => padI s [(3, .int .u64 ((8 * s.n : Nat) : Int)), (23, .int .i64 i), (1, .ptr 0 0), (2, .ptr 1 0)] (zN s.n + i), fun i => i ≤ 8, fun i => 8 - i, ?_, key ()⟩
        refine ⟨0, Nat.zero_le _, ?_⟩
        have e0 : zN s.n + 0 = a + 1 := by omega
        show wkW _ (padI s _ (zN s.n + 0))
        rw [e0, padIs]
        (simp -dsimp only [↓z_wk, ↓z_wkE_cons, ↓lkW_cons, Nat.reduceEqDiff, ↓reduceIte, D.int.injEq, true_and, ↓z_wkE_nil, and_self, and_true, ↓z_wkO_cons, ↓lkoW_cons, reduceCtorEq, ↓z_wkO_nil]); (try simp only [Int.toNat_natCast, Nat.mul_one, Bool.or_false, Bool.false_or, Bool.or_self, Bool.or_true])
        rfl
  rintro i hi
  by_cases h8 : i < 8
  · have e56 : (56 : Int) - 8 * (i : Int) = ((56 - 8 * i : Nat) : Int) := by omega
    have esh : shrI .u64 ((8 * s.n : Nat) : Int) ((56 - 8 * i : Nat) : Int) = (((8 * s.n) >>> (56 - 8 * i) : Nat) : Int) := u64_shr _ _ (by omega)
    have eb := bD_of ((8 * s.n) >>> (56 - 8 * i))
    obtain ⟨a, ha⟩ : ∃ a, zN s.n + i = a := ⟨_, rfl⟩
    have hP := padA_b (n := s.n) h8
    rw [ha] at hP
    show codeW _ _ _ (padI s _ (zN s.n + i)) _
    rw [ha]
    cases a with
    | zero =>
      rw [padI0]
      (simp -dsimp only [↓z_seq, ↓z_region, ↓z_ops_plain, ↓z_binOp, ↓evW_tmp, ↓lkW_cons, Nat.reduceEqDiff, ↓reduceIte, ↓evW_const, ↓constW_int, inR_i64, Int.reduceNeg, Int.reduceLE, and_self, ↓z_bn_lss, ↓z_put, Nat.reduceLT, ↓z_ops_nil, ↓z_seq_nrm, ↓z_cond, ↓z_cnd, ↓z_gdt, ↓z_skip, ↓z_block, ↓z_move, ↓z_assign, ↓z_bn_mul, ↓wrW_i64, ↓z_bn_sub, e56, ↓z_bn_shr, ↓z_convert, ↓y_ty101, ↓y_ty5, ↓z_cvt_int, ↓z_cv_int, ↓z_cvi_u64_u8, ↓z_buildSlice, ↓y_ty27, ↓z_slTy, ↓y_sz5, Nat.mul_one, Nat.reduceLeDiff, maxLen_lit, ↓y_zr5, List.length_cons, List.length_nil, Nat.zero_add, ↓z_repL_s, ↓z_repL_0, ↓z_cat_nil_r, ↓z_bld_cons, ↓z_cl_int, esh, eb, ↓spsW_cons, ↓drW_cons, reduceCtorEq, ↓drW_nil, ↓z_bld_nil, ↓z_allP_cons, ↓z_isP_int, ↓z_allP_nil, ↓z_callb, ↓z_evL_cons, ↓z_evL_nil, ↓z_append, ↓z_nint_sl, ↓y_by5, ↓z_src_slx, ↓z_app_slx, ↓z_room, Nat.reduceAdd, ↓z_new, ↓z_nm_cons, ↓z_nmC_bytes, nmC_str, ↓z_nm_nil, ↓z_pg_cons, ↓z_mn_slx, ↓z_mn_int, ↓z_mn_bool, ↓z_mn_ptr, ↓z_pg_nil, ↓z_blk_nrm, ↓z_bn_add, ↓z_lp_nrm, true_and, ↓z_exit, ↓z_seq_ext, ↓z_lp_ext, ↓z_blk_ext, ↓z_load, ↓y_ty103, ↓y_sz103, ↓z_agTy_st, ↓loadW_ptr, ↓lkoW_cons, ↓z_rd_t, ↓y_ty9, ↓z_cvt_bs, ↓z_u8, ↓z_cv_bs_slx, ↓z_callv, ↓evW_func, ↓z_fun0, ↓z_coeL_cons, ↓z_coe_oag, ↓z_coe_str, ↓z_coeL_nil, z_sub, z_ite])
      refine ⟨fun _ => ⟨by omega, by omega, by omega, .inr (.inl ⟨by omega, i + 1, by omega, by omega, ?_⟩)⟩, fun h => absurd h (by omega)⟩
      show wkW _ (padI s _ (zN s.n + (i + 1)))
      rw [show zN s.n + (i + 1) = 0 + 1 from by omega, padIs, hP, padA_0]
      (simp -dsimp only [↓z_wk, ↓z_wkE_cons, ↓lkW_cons, Nat.reduceEqDiff, ↓reduceIte, Nat.zero_add, D.int.injEq, true_and, ↓z_wkE_nil, and_self, and_true, ↓z_wkO_cons, ↓lkoW_cons, reduceCtorEq, ↓z_wkO_nil]); (try simp only [Int.toNat_natCast, Nat.mul_one, Bool.or_false, Bool.false_or, Bool.or_self, Bool.or_true])
      exact ⟨by omega, rfl⟩
    | succ a =>
      rw [padIs]
      have la := padA_len (n := s.n) (a := a + 1) (by omega)
      (simp -dsimp only [↓z_seq, ↓z_region, ↓z_ops_plain, ↓z_binOp, ↓evW_tmp, ↓lkW_cons, Nat.reduceEqDiff, ↓reduceIte, ↓evW_const, ↓constW_int, inR_i64, Int.reduceNeg, Int.reduceLE, and_self, ↓z_bn_lss, ↓z_put, Nat.reduceLT, ↓z_ops_nil, ↓z_seq_nrm, ↓z_cond, ↓z_cnd, ↓z_gdt, ↓z_skip, ↓z_block, ↓z_move, ↓z_assign, ↓z_bn_mul, ↓wrW_i64, ↓z_bn_sub, e56, ↓z_bn_shr, ↓z_convert, ↓y_ty101, ↓y_ty5, ↓z_cvt_int, ↓z_cv_int, ↓z_cvi_u64_u8, ↓z_buildSlice, ↓y_ty27, ↓z_slTy, ↓y_sz5, Nat.mul_one, Nat.reduceLeDiff, maxLen_lit, ↓y_zr5, List.length_cons, List.length_nil, Nat.zero_add, ↓z_repL_s, ↓z_repL_0, ↓z_cat_nil_r, ↓z_bld_cons, ↓z_cl_int, esh, eb, ↓spsW_cons, ↓drW_cons, reduceCtorEq, ↓drW_nil, ↓z_bld_nil, ↓z_allP_cons, ↓z_isP_int, ↓z_allP_nil, ↓z_callb, ↓z_evL_cons, ↓z_evL_nil, ↓z_append, ↓z_nint_sl, ↓y_by5, ↓z_src_slx, ↓z_app_osl, ↓lkoW_cons, List.length_map, la, ↓z_nmC_bytes, ↓z_room, ↓z_pgo_cons, ↓z_pgc_nm, ↓z_pgo_nil, ↓z_pg_cons, ↓z_mn_slx, ↓z_mn_int, ↓z_mn_osl, ↓z_mn_bool, ↓z_mn_ptr, ↓z_pg_nil, ↓z_so_cons, ↓z_blk_nrm, ↓z_bn_add, ↓z_lp_nrm, true_and, pgc_str, ↓z_exit, ↓z_seq_ext, ↓z_lp_ext, ↓z_blk_ext, ↓z_load, ↓y_ty103, ↓y_sz103, ↓z_agTy_st, ↓loadW_ptr, ↓z_rd_t, ↓y_ty9, ↓z_cvt_bs, ↓z_u8, ↓z_cv_bs_osl, ↓z_src_osl, ↓z_allP_bytes, ↓bsW_map, ↓z_callv, ↓evW_func, ↓z_fun0, ↓z_coeL_cons, ↓z_coe_oag, ↓z_coe_str, ↓z_coeL_nil, z_sub, z_ite])
      refine ⟨fun _ => ⟨by omega, by omega, by omega, by omega, by omega, by omega, i + 1, by omega, by omega, ?_⟩, fun h => absurd h (by omega)⟩
      show wkW _ (padI s _ (zN s.n + (i + 1)))
      rw [show zN s.n + (i + 1) = a + 1 + 1 from by omega, padIs, hP]
      (simp -dsimp only [↓z_wk, ↓z_wkE_cons, ↓lkW_cons, Nat.reduceEqDiff, ↓reduceIte, D.int.injEq, true_and, ↓z_wkE_nil, and_self, and_true, ↓z_wkO_cons, ↓lkoW_cons, reduceCtorEq, ↓z_wkO_nil]); (try simp only [Int.toNat_natCast, Nat.mul_one, Bool.or_false, Bool.false_or, Bool.or_self, Bool.or_true])
      exact ⟨by omega, by rw [List.map_append]; rfl⟩
  · have hi8 : i = 8 := by omega
    subst hi8
    show codeW _ _ _ (padI s _ (zN s.n + 7 + 1)) _
    rw [padIs, show zN s.n + 7 + 1 = zN s.n + 8 from rfl, padA_end]
    have la := padL_len s.n
    (simp -dsimp only [↓z_seq, ↓z_region, ↓z_ops_plain, ↓z_binOp, ↓evW_tmp, ↓lkW_cons, Nat.reduceEqDiff, ↓reduceIte, ↓evW_const, ↓constW_int, inR_i64, Int.reduceNeg, Int.reduceLE, and_self, ↓z_bn_lss, ↓z_put, Nat.reduceLT, ↓z_ops_nil, ↓z_seq_nrm, ↓z_cond, ↓z_cnd, ↓z_gdt, ↓z_skip, ↓z_block, ↓z_move, ↓z_assign, ↓z_bn_mul, ↓wrW_i64, ↓z_bn_sub, ↓z_bn_shr, ↓z_convert, ↓y_ty101, ↓y_ty5, ↓z_cvt_int, ↓z_cv_int, ↓z_cvi_u64_u8, ↓z_buildSlice, ↓y_ty27, ↓z_slTy, ↓y_sz5, Nat.mul_one, Nat.reduceLeDiff, maxLen_lit, ↓y_zr5, List.length_cons, List.length_nil, Nat.zero_add, ↓z_repL_s, ↓z_repL_0, ↓z_cat_nil_r, ↓z_bld_cons, ↓z_cl_int, ↓spsW_cons, ↓drW_cons, reduceCtorEq, ↓drW_nil, ↓z_bld_nil, ↓z_allP_cons, ↓z_isP_int, ↓z_allP_nil, ↓z_callb, ↓z_evL_cons, ↓z_evL_nil, ↓z_append, ↓z_nint_sl, ↓y_by5, ↓z_src_slx, ↓z_app_osl, ↓lkoW_cons, List.length_map, la, ↓z_nmC_bytes, ↓z_room, ↓z_pgo_cons, ↓z_pgc_nm, ↓z_pgo_nil, ↓z_pg_cons, ↓z_mn_slx, ↓z_mn_int, ↓z_mn_osl, ↓z_mn_bool, ↓z_mn_ptr, ↓z_pg_nil, ↓z_so_cons, ↓z_blk_nrm, ↓z_bn_add, ↓z_lp_nrm, Nat.reduceSub, true_and, pgc_str, ↓z_exit, ↓z_seq_ext, ↓z_lp_ext, ↓z_blk_ext, ↓z_load, ↓y_ty103, ↓y_sz103, ↓z_agTy_st, ↓loadW_ptr, ↓z_rd_t, ↓y_ty9, ↓z_cvt_bs, ↓z_u8, ↓z_cv_bs_osl, ↓z_src_osl, ↓z_allP_bytes, ↓bsW_map, ↓z_callv, ↓evW_func, ↓z_fun0, ↓z_coeL_cons, ↓z_coe_oag, ↓z_coe_str, ↓z_coeL_nil, z_sub, z_ite])
    refine ⟨fun h => absurd h (by decide), fun _ => ?_⟩
    have t1 : List.take 73 (List.drop 0 (strC s)) = strC s := List.take_of_length_le (by rw [List.drop_zero]; omega)
    rw [t1, coe_str]
    refine ⟨by omega, call_wk ⟨58, 2, [(1, .ptr 0 0), (2, .ptr 1 0)], [(1, (List.replicate 32 (0 : UInt8)).map bD), (0, strC s)]⟩ (by (simp -dsimp only [↓z_wk, ↓z_wkE_cons, ↓lkW_cons, Nat.reduceEqDiff, ↓reduceIte, ↓z_wkE_nil, and_self, ↓z_wkO_cons, ↓lkoW_cons, reduceCtorEq, ↓z_wkO_nil]); (try simp only [Int.toNat_natCast, Nat.mul_one, Bool.or_false, Bool.false_or, Bool.or_self, Bool.or_true])) (call0_fn (fn_Add s hb (padL s.n) (by omega)) fun _ => ?_)⟩
    obtain ⟨S, hS⟩ : ∃ S, addS s (padL s.n) = S := ⟨_, rfl⟩
    have hSb : S.blk.length = 64 := by rw [← hS, addS_blk, hb]
    have l2 := strC_len hSb
    have t2 : List.take 0 (strC s) ++ strC S ++ List.drop 73 (strC s) = strC S := by
      rw [List.take_zero, List.nil_append, List.drop_of_length_le (by omega), List.append_nil]
    rw [hS]
    (simp -dsimp only [↓z_put, Nat.reduceLT, ↓z_ops_plain, ↓z_store, ↓evW_tmp, ↓lkW_cons, Nat.reduceEqDiff, ↓reduceIte, ↓y_sz103, ↓z_cl_agg, l2, ↓z_store_ptr, ↓lkoW_cons, reduceCtorEq, Nat.zero_add, l1, Nat.reduceLeDiff, ↓z_so_cons, ↓z_put_none, ↓z_ops_nil, ↓z_seq_nrm, ↓z_seq, ↓z_region, ↓z_alloc, ↓y_zr107, ↓z_new, ↓z_nm_cons, ↓z_nmC_bytes, ↓z_nm_nil, ↓z_pg_cons, ↓z_mn_agg, ↓z_mn_ptr, ↓z_pg_nil, ↓z_move, ↓evW_const, ↓constW_int, inR_i64, Int.reduceNeg, Int.reduceLE, and_self, ↓z_block, ↓z_loop, true_and, z_sps, ↓z_nmC_app])
    have n2 : ∀ (x : Str), nmC 2 (strC x) := fun x => of_eq_true (nmC_str 2 x)
    refine ⟨⟨⟨fun c hc => n2 s c (List.mem_of_mem_take hc), n2 S⟩, fun c hc => n2 s c (List.mem_of_mem_drop hc)⟩, ?_⟩
    refine hold_intro ⟨[], Nat, fun i => ⟨58, 3, [(40, .int .i64 i), (6, .ptr 2 0), (1, .ptr 0 0), (2, .ptr 1 0)], [(2, (outK S.st i).map bD), (1, (List.replicate 32 (0 : UInt8)).map bD), (0, strC S)]⟩, fun i => i ≤ 32, fun i => 32 - i, ?_, ?_⟩
    · (simp -dsimp only [↓z_ad_nil, ↓z_wk, ↓z_wkE_cons, ↓lkW_cons, ↓reduceIte, D.int.injEq, true_and, Nat.reduceEqDiff, ↓z_wkE_nil, and_self, and_true, ↓z_wkO_cons, ↓lkoW_cons, reduceCtorEq, Nat.zero_add, t2, ↓z_wkO_nil]); (try simp only [Int.toNat_natCast, Nat.mul_one, Bool.or_false, Bool.false_or, Bool.or_self, Bool.or_true])
      exact ⟨0, by omega, rfl, rfl⟩
    rintro i hi
    have lo := outK_len (s := S.st) hi
    have lz : (List.replicate 32 (0 : UInt8)).length = 32 := by decide
    by_cases h32 : i < 32
    · have e4 : (i : Int).tdiv 4 = ((i / 4 : Nat) : Int) := by rw [Int.tdiv_eq_ediv_of_nonneg (by omega)]; omega
      have e5 : (24 : Int) - 8 * (i : Int).tmod 4 = ((24 - 8 * (i % 4) : Nat) : Int) := by rw [Int.tmod_eq_emod_of_nonneg (by omega)]; omega
      have qw := strC_w S (i := i / 4) (by omega)
      have esh := u32_shr ((s8L S.st).getD (i / 4) 0) (24 - 8 * (i % 4)) (by omega)
      have eb : D.int .u8 (IntKind.u8.wrap ((sR ((s8L S.st).getD (i / 4) 0) (24 - 8 * (i % 4)) : Nat) : Int)) = bD (UInt8.ofNat ((s8L S.st).getD (i / 4) 0 >>> (24 - 8 * (i % 4)))) := bD_of _
      (simp -dsimp only [↓z_seq, ↓z_region, ↓z_ops_plain, ↓z_binOp, ↓evW_tmp, ↓lkW_cons, ↓reduceIte, ↓evW_const, ↓constW_int, inR_i64, Int.reduceNeg, Int.reduceLE, and_self, ↓z_bn_lss, ↓z_put, Nat.reduceLT, ↓z_ops_nil, ↓z_seq_nrm, ↓z_cond, ↓z_cnd, ↓z_gdt, ↓z_skip, ↓z_block, ↓z_move, Nat.reduceEqDiff, ↓z_assign, ↓z_bn_quo, ↓z_quo_i64, ne_eq, Int.reduceEq, not_false_eq_true, e4, ↓z_fieldAddr, ↓y_fl103x0, ↓y_sz99, reduceCtorEq, ↓z_fa_ptr, ↓z_indexAddr, ↓y_ty99, ↓z_elTy_arr, ↓y_sz98, ↓z_ix_ptr, ↓z_load, ↓y_ty98, ↓z_agTy_int, ↓loadW_ptr, ↓lkoW_cons, ↓z_rd_f, Nat.zero_add, Nat.mul_one, ↓z_bn_rem, ↓z_rem_i64, ↓z_bn_mul, ↓wrW_i64, ↓z_bn_sub, e5, ↓z_convert, ↓y_ty5, ↓z_cvt_int, ↓y_ty107, ↓y_sz5, ↓z_store, ↓z_put_none, ↓z_blk_nrm, ↓z_lp_nrm, true_and, ↓z_exit, ↓z_seq_ext, ↓z_lp_ext, ↓z_blk_ext, ↓y_sz107, ↓z_agTy_arr, ↓z_rd_t, List.length_map, lo, Nat.reduceLeDiff, ↓z_sub_map, ↓z_cl_oag, List.length_take, List.length_drop, Nat.reduceSub, ↓z_store_ptr, lz, ↓z_sps_map, ↓z_so_cons, ↓z_ret, ↓z_end_rt, resLW, res1W, ↓z_coeL_cons, ↓z_coeL_nil, ↓z_pack1, List.length_append, ↓z_coe_oag, ↓z_coeC_bytes, D.agg.injEq, z_ite]); (try simp only [Int.toNat_natCast])
      refine ⟨fun _ => ⟨by omega, by omega, by omega, ?_⟩, fun h => absurd h (by omega)⟩
      rw [qw]
      (simp -dsimp only [Int.reduceNeg, ↓z_bn_shr, ↓z_cv_int, ↓z_cvi_u32_u8, ↓z_put, Nat.reduceLT, ↓evW_tmp, ↓lkW_cons, Nat.reduceEqDiff, ↓reduceIte, ↓z_ix_ptr, ↓z_cl_int, esh, eb, List.length_cons, List.length_nil, Nat.zero_add, ↓z_store_ptr, ↓lkoW_cons, Nat.mul_one, List.length_map, lo, Nat.reduceLeDiff, ↓z_so_cons, ↓z_bn_add, ↓wrW_i64, inR_i64, ↓z_wk, ↓z_wkE_cons, D.int.injEq, true_and, ↓z_wkE_nil, and_self, and_true, ↓z_wkO_cons, reduceCtorEq, ↓z_wkO_nil, z_sps]); (try simp only [Int.toNat_natCast])
      have tm : (i : Int).tmod 4 = ((i % 4 : Nat) : Int) := by rw [Int.tmod_eq_emod_of_nonneg (by omega)]; omega
      rw [tm]
      refine ⟨by omega, by omega, by omega, by omega, by omega, by omega, by omega, i + 1, by omega, by omega, by omega, ?_⟩
      rw [← outK_s h32, List.map_append, List.map_append, List.map_take, List.map_drop]; rfl
    · have hi' : i = 32 := by omega
      subst hi'
      rw [outK_end] at lo
      (simp -dsimp only [↓z_seq, ↓z_region, ↓z_ops_plain, ↓z_binOp, ↓evW_tmp, ↓lkW_cons, ↓reduceIte, ↓evW_const, ↓constW_int, inR_i64, Int.reduceNeg, Int.reduceLE, and_self, ↓z_bn_lss, ↓z_put, Nat.reduceLT, ↓z_ops_nil, ↓z_seq_nrm, ↓z_cond, ↓z_cnd, ↓z_gdt, ↓z_skip, ↓z_block, ↓z_move, Nat.reduceEqDiff, ↓z_assign, ↓z_bn_quo, ↓z_quo_i64, ne_eq, Int.reduceEq, not_false_eq_true, ↓z_fieldAddr, ↓y_fl103x0, ↓y_sz99, reduceCtorEq, ↓z_fa_ptr, ↓z_indexAddr, ↓y_ty99, ↓z_elTy_arr, ↓y_sz98, ↓z_ix_ptr, ↓z_load, ↓y_ty98, ↓z_agTy_int, ↓loadW_ptr, ↓lkoW_cons, ↓z_rd_f, Nat.zero_add, Nat.mul_one, ↓z_bn_rem, ↓z_rem_i64, ↓z_bn_mul, ↓wrW_i64, ↓z_bn_sub, ↓z_convert, ↓y_ty5, ↓z_cvt_int, outK_end, ↓y_ty107, ↓y_sz5, ↓z_store, ↓z_put_none, ↓z_blk_nrm, ↓z_lp_nrm, Nat.reduceSub, true_and, ↓z_exit, ↓z_seq_ext, ↓z_lp_ext, ↓z_blk_ext, ↓y_sz107, ↓z_agTy_arr, ↓z_rd_t, List.length_map, lo, Nat.reduceLeDiff, ↓z_sub_map, ↓z_cl_oag, List.length_take, List.length_drop, ↓z_store_ptr, lz, ↓z_sps_map, ↓z_so_cons, ↓z_ret, ↓z_end_rt, resLW, res1W, ↓z_coeL_cons, ↓z_coeL_nil, ↓z_pack1, List.length_append, ↓z_coe_oag, ↓z_coeC_bytes, D.agg.injEq, z_ite]); (try simp only [Int.toNat_natCast, Nat.mul_one, Bool.or_false, Bool.false_or, Bool.or_self, Bool.or_true])
      refine ⟨fun h => absurd h (by decide), fun _ => ?_⟩
      have tk : List.take 32 (outB S.st) = outB S.st := List.take_of_length_le (by omega)
      have eS : sumS s = outB S.st := by unfold sumS; rw [hS]
      refine ⟨by decide, by decide, ?_⟩
      rw [eS, List.drop_zero, List.take_zero, List.drop_zero, List.nil_append, tk, show List.drop 32 (List.replicate 32 (0 : UInt8)) = [] from rfl, List.append_nil, tk]
end Go.Abs
end
