/-
  HASH, fourth walks: a block is hashed.
-/
import Derived.Test.YtccipobbdohdpaaDoorH3
import Derived.Test.YtccipobbdohdpaaDoorAbs30
namespace Go.Abs
open Go.Proofs
def ktC : List D := (wI kt).map (D.int .u32)
/-- The program's table of constants. -/
abbrev GH : Glob := [(0, ktC)]
/-- Both tables of constants: the program's and the document's. -/
abbrev GK : Glob := [(0, ktC), (1, ktC)]
theorem GH_GK : ∀ g cs, lk g GH = some cs → lk g GK = some cs := fun g cs h => by
  simp only [lk] at h ⊢
  split at h
  · rename_i e; rw [if_pos e]; exact h
  · cases h
theorem Fn.gk {f : FuncId} {ds : List D} {d : D} (h : Fn GH Tryd.prog f ds d) : Fn GK Tryd.prog f ds d := h.glob GH_GK
theorem kt_at {t : Nat} (h : t < (wI kt).length) : (wI kt)[t] = ((kt.getD t 0 : Nat) : Int) := by
  rw [wI_get, List.getD_eq_getElem?_getD, List.getElem?_eq_getElem]; rfl
theorem sch_at {b : List UInt8} {t : Nat} (h : t < (wI (sch b 64)).length) : (wI (sch b 64))[t] = (((sch b 64).getD t 0 : Nat) : Int) := by
  rw [wI_get, List.getD_eq_getElem?_getD, List.getElem?_eq_getElem]; rfl
/-- The state while the words of a block's end are added. -/
def adL (s v : S8) (i : Nat) : List Nat := [if 0 < i then ad s.a v.a else s.a, if 1 < i then ad s.b v.b else s.b, if 2 < i then ad s.c v.c else s.c, if 3 < i then ad s.d v.d else s.d,
  if 0 < i then ad s.e v.e else s.e, if 1 < i then ad s.f v.f else s.f, if 2 < i then ad s.g v.g else s.g, if 3 < i then ad s.h v.h else s.h]
set_option maxRecDepth 100000 in
set_option maxHeartbeats 8000000 in
theorem fn_compress (s : S8) (b : List UInt8) (hb : b.length = 64) : Fn GH Tryd.prog 54 [.agg (s8C s), .sl 1 64 (b.map bD)] (.agg (s8C (cmp8 s b))) := by
  unfold s8C
  refine Fn.mk (c := _) Tryd.func54 rfl rfl Tryd.ntmps54 Tryd.results54 ?_
  (simp -dsimp only [bodyW, List.length_cons, List.length_nil, Nat.zero_add, Nat.reduceAdd, Nat.reduceLeDiff, wfL, ↓z_seq, ↓z_region, ↓z_ops_plain, ↓z_box, ↓evW_tmp, ↓z_lk_env, ↓reduceIte, ↓z_cl_agg, ↓z_nmC_cons, ↓z_mn'_int, ↓z_nmC_nil, and_self, ↓z_new, ↓z_nm_nil, Nat.reduceLT, ↓z_pg_env, ↓z_mn_agg, ↓z_mn_sl, ↓z_pg_env0, ↓z_put, ↓z_alloc, ↓y_zr95, ↓z_nm_cons, ↓z_pg_cons, ↓z_mn_ptr, reduceCtorEq, ↓z_pg_nil, ↓z_ops_nil, ↓z_seq_nrm, ↓z_move, ↓lkW_cons, Nat.reduceEqDiff, ↓z_callv, ↓evW_func, ↓z_evL_cons, ↓z_evL_nil, ↓z_fun0, ↓z_coeL_cons, ↓z_coe_sl, ↓z_coeL_nil, true_and])
  intro _ _
  refine call_fn (fn_schedule GH b hb) fun _ => ?_
  have hz : (wI (sch b 64)).length = 64 := by rw [wI_len, sch_len]
  (simp -dsimp only [↓z_put, Nat.reduceLT, ↓z_ops_plain, ↓z_alloc, ↓y_zr112, ↓z_new, ↓z_nm_cons, ↓z_nmC_cons, ↓z_mn'_int, ↓z_nmC_nil, and_self, ↓z_nm_nil, Nat.zero_add, Nat.reduceAdd, ↓z_pg_cons, ↓z_mn_agg, ↓z_mn_sl, ↓z_mn_ptr, Nat.reduceEqDiff, ↓reduceIte, reduceCtorEq, ↓z_pg_nil, ↓z_store, ↓evW_tmp, ↓lkW_cons, ↓y_sz112, ↓z_cl_agg, List.length_map, hz, ↓z_store_ptr, ↓lkoW_cons, List.length_cons, List.length_nil, Nat.reduceLeDiff, ↓spsW_cons, ↓drW_cons, Nat.reduceSub, ↓drW_nil, ↓z_cat_nil_r, ↓z_so_cons, ↓z_put_none, ↓z_ops_nil, ↓z_seq_nrm, ↓z_seq, ↓z_region_d, ↓y_mix, true_and])
  refine rgn_x 9 [] (by decide +kernel) ?_
  (simp -dsimp only [↓z_nmRE_cons, ↓z_nmR_ptr, Nat.zero_add, Nat.reduceAdd, Nat.reduceLT, Nat.reduceLeDiff, or_false, ↓z_nmR_agg, ↓z_nmR_sl, ↓z_nmRE_nil, and_self, ↓z_nmRO_cons, ↓z_nmRL_int, ↓z_nmRL_cons, ↓z_nmR_int, ↓z_nmRL_nil, ↓z_nmRO_nil, ↓z_splitO_cons, List.not_mem_nil, ↓reduceIte, ↓z_splitO_nil, List.take_succ_cons, List.take_zero, List.drop_succ_cons, List.drop_zero, ↓z_seq, ↓z_region, ↓z_ops_plain, ↓z_load, ↓evW_global, ↓glW_cons, ↓y_ty112, ↓y_sz112, ↓z_agTy_arr, ↓loadW_rop, ↓z_rd_t, ↓z_move, ↓evW_const, ↓constW_int, inR_i64, Int.reduceNeg, Int.reduceLE, ↓z_ops_nil, ↓z_seq_nrm, ↓z_block, ↓z_loop, true_and, z_sub, resLW, res1W, ↓y_ty95, ↓y_sz95, ↓z_coeL_cons, ↓z_coeL_nil, ↓z_pack1, ↓z_store, ↓evW_tmp, ↓y_sz114, ↓z_put_none, ↓z_drx_slice, ↓z_drxS, ↓z_grd_none, ↓z_withE, ↓z_rd_tmp, ↓lkW_cons, Nat.reduceEqDiff, ↓z_oLn, ↓z_oL, List.nil_append, List.append_nil, ↓z_ap_cons, ↓z_apO_cons, ↓z_apO_nil, ↓z_or_slice, ↓z_slice, ↓z_evO_none, ↓z_bo_none, ↓z_evO_some, ↓z_bo_some, ↓z_seTy_arr, ↓y_sz94, ↓z_slc_ptr_nh, ↓lkoW_cons, reduceCtorEq, Nat.mul_one, List.length_cons, List.length_nil, maxLen_lit, Int.reduceToNat, and_true, ↓z_rd_const, ↓z_rd_nil, ↓z_ap_nil, ↓z_exD_all, ↓z_exD_all2, ↓z_exD_and, ↓z_exD_eq, ↓z_nmR_osw, ↓z_put, ↓z_drxK, ↓z_drx_s2a, ↓z_or_sliceToArrayPointer, ↓z_s2a, ↓y_ty114, ↓z_arTy, ↓z_s2a_osw, ↓z_drx_load, ↓z_or_load, ↓loadW_ptr, ↓z_sub_c, ↓z_sub_c0, ↓z_nmR_oag, ↓z_nmRS_int, ↓z_nmRS_nil, ↓z_slc_ptr_ln, Nat.reduceSub, ↓z_sub_cs, ↓z_sub_nil, ↓z_drx_alloc, ↓y_zr114, ↓z_drx_store, ↓z_ptX, ↓z_noW_nil, ↓z_alW_cons, false_implies, true_implies, ↓z_alW_nil, ↓z_cl_oag, ↓z_spl, ↓spsW_cons, ↓drW_cons, ↓drW_nil, ↓z_cat_nil_r, ↓z_so_cons, ↓z_drx_nil, ↓z_store_ptr])
  have e64 : List.take 64 ktC = (wI kt).map (D.int .u32) := rfl
  rw [e64]
  refine ⟨by decide, by decide, by decide, hold_intro ⟨[], Nat, fun t => ⟨116, 5, [(22, .int .i64 t), (21, .agg ((wI kt).map (D.int .u32))), (7, .ptr 4 0), (6, .ptr 3 0), (5, .ptr 2 0), (4, .ptr 1 0), (2, .ptr 0 0)],
    [(4, [.int .u32 (rnds s (sch b 64) t).e, .int .u32 (rnds s (sch b 64) t).f, .int .u32 (rnds s (sch b 64) t).g, .int .u32 (rnds s (sch b 64) t).h]), (3, [.int .u32 (rnds s (sch b 64) t).a, .int .u32 (rnds s (sch b 64) t).b, .int .u32 (rnds s (sch b 64) t).c, .int .u32 (rnds s (sch b 64) t).d]),
     (2, (wI (sch b 64)).map (D.int .u32)), (1, [.int .u32 0, .int .u32 0, .int .u32 0, .int .u32 0, .int .u32 0, .int .u32 0, .int .u32 0, .int .u32 0]), (0, [.int .u32 s.a, .int .u32 s.b, .int .u32 s.c, .int .u32 s.d, .int .u32 s.e, .int .u32 s.f, .int .u32 s.g, .int .u32 s.h])]⟩, fun t => t ≤ 64, fun t => 64 - t, ?_, ?_⟩⟩
  · (simp -dsimp only [↓z_ad_nil, ↓z_wk, ↓z_wkE_cons, ↓lkW_cons, ↓reduceIte, D.int.injEq, true_and, Nat.reduceEqDiff, Nat.reduceAdd, ↓z_wkE_nil, and_self, and_true, ↓z_wkO_cons, ↓lkoW_cons, List.cons.injEq, reduceCtorEq, ↓z_wkO_nil]); (try simp only [Int.toNat_natCast, Nat.mul_one, Bool.or_false, Bool.false_or, Bool.or_self, Bool.or_true])
    exact ⟨0, by omega, by simp [rnds]⟩
  rintro t ht
  have hk : (wI kt).length = 64 := by decide
  obtain ⟨R, hR⟩ : ∃ R, rnds s (sch b 64) t = R := ⟨_, rfl⟩
  (simp -dsimp only [↓z_seq, ↓z_region, ↓z_ops_plain, ↓z_binOp, ↓evW_tmp, ↓lkW_cons, ↓reduceIte, ↓evW_const, ↓constW_int, inR_i64, Int.reduceNeg, Int.reduceLE, and_self, ↓z_bn_lss, ↓z_put, Nat.reduceLT, ↓z_ops_nil, ↓z_seq_nrm, ↓z_cond, ↓z_cnd, ↓z_gdt, ↓z_skip, ↓z_block, ↓z_move, Nat.reduceEqDiff, ↓z_index, ↓y_ty112, ↓z_in_arr, ↓y_sz94, ↓y_ty94, ↓z_isAg_int, ↓z_assign, ↓z_region_d, ↓y_mix, true_and, ↓z_inx_arr, ↓z_fv_agg, ↓z_rd_f, ↓z_nth_int, Nat.mul_one, hk, ↓z_exit, ↓z_seq_ext, ↓z_lp_ext, ↓z_blk_ext, ↓z_loop, z_ite]); (try simp only [Int.toNat_natCast])
  refine ⟨fun h => ?_, fun h => ?_⟩
  · refine ⟨by omega, by omega, by omega, rgn_d (by decide +kernel) ?_⟩
    (simp -dsimp only [↓z_drw_indexAddr, ↓z_drwS, ↓z_grd_none, ↓z_withE, ↓z_rd_tmp, ↓lkW_cons, Nat.reduceEqDiff, ↓reduceIte, ↓z_rd_const, ↓z_rd_nil, ↓z_ap_cons, ↓z_ap_nil, ↓z_or_indexAddr, ↓z_indexAddr, ↓evW_tmp, ↓evW_const, ↓constW_int, inR_i64, Int.reduceNeg, Int.reduceLE, and_self, ↓y_ty114, ↓z_elTy_arr, ↓y_sz94, ↓z_ix_ptr, Int.reduceToNat, Nat.mul_one, Nat.zero_add, hR, and_true, true_and, ↓z_exD_all, ↓z_exD_and, ↓z_exD_eq, ↓z_put, Nat.reduceLT, ↓z_drwK, ↓z_drw_load, ↓z_or_load, ↓z_load, ↓y_ty94, ↓z_agTy_int, ↓loadW_ptr, ↓lkoW_cons, ↓z_rd_f, ↓nthW_cons, reduceCtorEq, Nat.reduceSub, ↓z_drw_callv, ↓z_rd_func]); (try simp only [Int.toNat_natCast, Nat.mul_one, Bool.or_false, Bool.false_or, Bool.or_self, Bool.or_true])
    refine ⟨by omega, by omega, ex_mk (.int .u32 ((mx R.e 6 11 25 : Nat) : Int)) (fun E => ?_) ?_⟩
    · (simp -dsimp only [↓z_ap_cons, ↓z_ap_nil, ↓z_callv, ↓evW_func, ↓z_evL_cons, ↓evW_tmp, ↓lkW_cons, ↓reduceIte, ↓evW_const, ↓constW_int, inR_i64, Int.reduceNeg, Int.reduceLE, and_self, ↓z_evL_nil, ↓z_fun0, ↓z_coeL_cons, ↓z_coe_int, ↓z_coeL_nil, true_and]); (try simp only [Int.toNat_natCast, Nat.mul_one, Bool.or_false, Bool.false_or, Bool.or_self, Bool.or_true])
      exact call_fn (fn_mix GH R.e 6 11 25 (by decide) (by decide) (by decide) (by decide) (by decide) (by decide)) fun _ => ⟨rfl, rfl⟩
    (simp -dsimp only [↓z_put, Nat.reduceLT, ↓z_drwK, ↓z_drw_binOp, ↓z_drwS, ↓z_grd_none, ↓z_withE, ↓z_rd_tmp, ↓lkW_cons, Nat.reduceEqDiff, ↓reduceIte, ↓z_rd_nil, ↓z_ap_cons, ↓z_ap_nil, ↓z_or_binOp, ↓z_binOp, ↓evW_tmp, ↓z_bn_add, ↓wrW_u32, u32_add, hR, and_true, ↓z_exD_all, ↓z_exD_eq, ↓z_drw_indexAddr, ↓z_rd_const, ↓z_or_indexAddr, ↓z_indexAddr, ↓evW_const, ↓constW_int, inR_i64, Int.reduceNeg, Int.reduceLE, and_self, ↓y_ty114, ↓z_elTy_arr, ↓y_sz94, ↓z_ix_ptr, Int.reduceToNat, Nat.mul_one, Nat.zero_add, true_and, ↓z_exD_and, ↓z_drw_load, ↓z_or_load, ↓z_load, ↓y_ty94, ↓z_agTy_int, ↓loadW_ptr, ↓lkoW_cons, ↓z_rd_f, ↓nthW_cons, reduceCtorEq, Nat.reduceSub, ↓z_bn_and, u32_and, ↓z_drw_unOp, ↓z_or_unOp, ↓z_unOp, ↓z_un_xor, u32_un, ↓z_bn_xor, u32_xor, ↓z_drw_move, ↓z_or_move, ↓z_move, kt_at, ↓y_ty112, ↓z_nth_int, sch_at, hz, ↓z_exD_ex, ↓z_drw_assign, ↓z_or_assign, ↓z_assign, ↓z_drw_nil, ↓z_seq_nrm, ↓z_seq, ↓z_region_d, ↓y_mix]); (try simp only [Int.toNat_natCast])
    refine ⟨by omega, by omega, by omega, by omega, by omega, by omega, by omega, ?_⟩
    refine rgn_d (by decide +kernel) ?_
    (simp -dsimp only [↓z_drw_indexAddr, ↓z_drwS, ↓z_grd_none, ↓z_withE, ↓z_rd_tmp, ↓lkW_cons, Nat.reduceEqDiff, ↓reduceIte, ↓z_rd_const, ↓z_rd_nil, ↓z_ap_cons, ↓z_ap_nil, ↓z_or_indexAddr, ↓z_indexAddr, ↓evW_tmp, ↓evW_const, ↓constW_int, inR_i64, Int.reduceNeg, Int.reduceLE, and_self, ↓y_ty114, ↓z_elTy_arr, ↓y_sz94, ↓z_ix_ptr, Int.reduceToNat, Nat.mul_one, Nat.zero_add, hR, and_true, true_and, ↓z_exD_all, ↓z_exD_and, ↓z_exD_eq, ↓z_put, Nat.reduceLT, ↓z_drwK, ↓z_drw_load, ↓z_or_load, ↓z_load, ↓y_ty94, ↓z_agTy_int, ↓loadW_ptr, ↓lkoW_cons, ↓z_rd_f, ↓nthW_cons, ↓z_drw_callv, ↓z_rd_func]); (try simp only [Int.toNat_natCast, Nat.mul_one, Bool.or_false, Bool.false_or, Bool.or_self, Bool.or_true])
    refine ⟨by omega, ex_mk (.int .u32 ((mx R.a 2 13 22 : Nat) : Int)) (fun E => ?_) ?_⟩
    · (simp -dsimp only [↓z_ap_cons, ↓z_ap_nil, ↓z_callv, ↓evW_func, ↓z_evL_cons, ↓evW_tmp, ↓lkW_cons, ↓reduceIte, ↓evW_const, ↓constW_int, inR_i64, Int.reduceNeg, Int.reduceLE, and_self, ↓z_evL_nil, ↓z_fun0, ↓z_coeL_cons, ↓z_coe_int, ↓z_coeL_nil, true_and]); (try simp only [Int.toNat_natCast, Nat.mul_one, Bool.or_false, Bool.false_or, Bool.or_self, Bool.or_true])
      exact call_fn (fn_mix GH R.a 2 13 22 (by decide) (by decide) (by decide) (by decide) (by decide) (by decide)) fun _ => ⟨rfl, rfl⟩
    (simp -dsimp only [↓z_put, Nat.reduceLT, ↓z_drwK, ↓z_drw_indexAddr, ↓z_drwS, ↓z_grd_none, ↓z_withE, ↓z_rd_tmp, ↓lkW_cons, Nat.reduceEqDiff, ↓reduceIte, ↓z_rd_const, ↓z_rd_nil, ↓z_ap_cons, ↓z_ap_nil, ↓z_or_indexAddr, ↓z_indexAddr, ↓evW_tmp, ↓evW_const, ↓constW_int, inR_i64, Int.reduceNeg, Int.reduceLE, and_self, ↓y_ty114, ↓z_elTy_arr, ↓y_sz94, ↓z_ix_ptr, Int.reduceToNat, Nat.mul_one, Nat.zero_add, hR, and_true, true_and, ↓z_exD_all, ↓z_exD_and, ↓z_exD_eq, ↓z_drw_load, ↓z_or_load, ↓z_load, ↓y_ty94, ↓z_agTy_int, ↓loadW_ptr, ↓lkoW_cons, ↓z_rd_f, ↓nthW_cons, reduceCtorEq, Nat.reduceSub, ↓z_drw_binOp, ↓z_or_binOp, ↓z_binOp, ↓z_bn_and, u32_and, ↓z_bn_xor, u32_xor, ↓z_bn_add, ↓wrW_u32, u32_add, ↓z_drw_assign, ↓z_or_assign, ↓z_assign, ↓z_drw_nil, ↓z_seq_nrm, ↓z_seq, ↓z_region, ↓z_ops_plain, ↓z_move, ↓z_build, ↓z_blTy_arr, ↓y_zr114, ↓z_bld_cons, ↓z_cl_int, List.length_cons, List.length_nil, Nat.reduceAdd, Nat.reduceLeDiff, ↓spsW_cons, ↓drW_cons, ↓catW_cons, ↓catW_nil, ↓drW_nil, ↓z_cat_nil_r, ↓z_bld_nil, ↓z_store, ↓y_sz114, ↓z_cl_oag, ↓z_store_ptr, ↓z_so_cons, ↓z_put_none, ↓z_ops_nil, ↓z_blk_nrm, ↓wrW_i64, ↓z_lp_nrm, ↓z_wk, ↓z_wkE_cons, D.int.injEq, ↓z_wkE_nil, ↓z_wkO_cons, List.cons.injEq, ↓z_wkO_nil]); (try simp only [Int.toNat_natCast, Nat.mul_one, Bool.or_false, Bool.false_or, Bool.or_self, Bool.or_true])
    have hs : rnds s (sch b 64) (t + 1) = rnd R (kt.getD t 0) ((sch b 64).getD t 0) := by rw [rnds, hR]
    refine ⟨by omega, by omega, by omega, by omega, by omega, by omega, by omega, by omega, by omega, by omega, by omega, by omega, by omega, by omega, t + 1, by omega, by omega, by omega, ?_⟩
    rw [hs]
    exact ⟨⟨rfl, rfl, rfl, rfl⟩, rfl, rfl, rfl, rfl⟩
  · have ht : t = 64 := by omega
    subst ht
    obtain ⟨V, hV⟩ : ∃ V, rnds s (sch b 64) 64 = V := ⟨_, rfl⟩
    have hl := fun i => show (wI (adL s V i)).length = 8 from rfl
    have h4 : (wI [V.a, V.b, V.c, V.d]).length = 4 := rfl
    have h4' : (wI [V.e, V.f, V.g, V.h]).length = 4 := rfl
    refine hold_intro ⟨[], Nat, fun i => ⟨116, 5, [(94, .int .i64 i), (7, .ptr 4 0), (6, .ptr 3 0), (4, .ptr 1 0), (2, .ptr 0 0)],
      [(4, (wI [V.e, V.f, V.g, V.h]).map (D.int .u32)), (3, (wI [V.a, V.b, V.c, V.d]).map (D.int .u32)),
       (1, (wI [0, 0, 0, 0, 0, 0, 0, 0]).map (D.int .u32)), (0, (wI (adL s V i)).map (D.int .u32))]⟩, fun i => i ≤ 4, fun i => 4 - i, ?_, ?_⟩
    · (simp -dsimp only [↓z_ad_nil, ↓z_wk, ↓z_wkE_cons, ↓lkW_cons, ↓reduceIte, D.int.injEq, true_and, Nat.reduceEqDiff, ↓z_wkE_nil, and_self, and_true, ↓z_wkO_cons, ↓lkoW_cons, hV, reduceCtorEq, ↓z_wkO_nil]); (try simp only [Int.toNat_natCast, Nat.mul_one, Bool.or_false, Bool.false_or, Bool.or_self, Bool.or_true])
      exact ⟨0, by omega, rfl, rfl, rfl, rfl, rfl⟩
    rintro i hi
    (simp -dsimp only [↓z_seq, ↓z_region, ↓z_ops_plain, ↓z_binOp, ↓evW_tmp, ↓lkW_cons, ↓reduceIte, ↓evW_const, ↓constW_int, inR_i64, Int.reduceNeg, Int.reduceLE, and_self, ↓z_bn_lss, ↓z_put, Nat.reduceLT, ↓z_ops_nil, ↓z_seq_nrm, ↓z_cond, ↓z_cnd, ↓z_gdt, ↓z_skip, ↓z_block, ↓z_move, Nat.reduceEqDiff, ↓z_assign, ↓z_region_d, ↓y_mix, true_and, ↓z_exit, ↓z_seq_ext, ↓z_lp_ext, ↓z_blk_ext, ↓z_load, ↓y_ty95, ↓y_sz95, ↓z_agTy_arr, ↓loadW_ptr, ↓lkoW_cons, reduceCtorEq, ↓z_rd_t, Nat.zero_add, List.length_map, hl, Nat.reduceLeDiff, ↓z_sub_map, ↓z_store, ↓z_cl_oag, List.length_take, List.length_drop, Nat.reduceSub, ↓z_store_ptr, ↓z_sps_map, ↓z_so_cons, ↓z_put_none, ↓z_ret, ↓z_end_rt, resLW, res1W, ↓z_coeL_cons, ↓z_coeL_nil, ↓z_pack1, List.length_append, ↓z_coe_oag, D.agg.injEq, z_ite]); (try simp only [Int.toNat_natCast, Nat.mul_one, Bool.or_false, Bool.false_or, Bool.or_self, Bool.or_true])
    refine ⟨fun hi4 => rgn_d (by decide +kernel) ?_, fun hi4 => ?_⟩
    · (simp -dsimp only [↓z_drw_move, ↓z_drwS, ↓z_grd_none, ↓z_withE, ↓z_rd_tmp, ↓lkW_cons, ↓reduceIte, ↓z_rd_nil, ↓z_ap_cons, ↓z_ap_nil, ↓z_or_move, ↓z_move, ↓evW_tmp, and_true, ↓z_exD_all, ↓z_exD_eq, ↓z_put, Nat.reduceLT, ↓z_drwK, ↓z_drw_indexAddr, Nat.reduceEqDiff, ↓z_or_indexAddr, ↓z_indexAddr, ↓y_ty95, ↓z_elTy_arr, ↓y_sz94, ↓z_ix_ptr, Nat.mul_one, Nat.zero_add, ↓z_exD_and, ↓z_drw_load, ↓z_or_load, ↓z_load, ↓y_ty94, ↓z_agTy_int, ↓loadW_ptr, ↓lkoW_cons, reduceCtorEq, ↓z_rd_f, ↓z_nth_int, hl, ↓z_exD_ex, ↓y_ty114, h4, ↓z_drw_binOp, ↓z_or_binOp, ↓z_binOp, ↓z_bn_add, ↓wrW_u32, ↓z_drw_store, ↓z_ops_plain, ↓z_store, ↓z_cl_int, List.length_cons, List.length_nil, ↓z_store_ptr, List.length_map, Nat.reduceLeDiff, ↓z_sps_int, ↓z_so_cons, ↓z_put_none, ↓z_ops_nil, ↓z_seq_nrm, ↓z_region_d, ↓y_mix, true_and]); (try simp only [Int.toNat_natCast])
      refine ⟨by omega, by omega, by omega, by omega, by omega, by omega, by omega, by omega, by omega, rgn_d (by decide +kernel) ?_⟩
      (simp -dsimp only [↓z_drw_move, ↓z_drwS, ↓z_grd_none, ↓z_withE, ↓z_rd_tmp, ↓lkW_cons, Nat.reduceEqDiff, ↓reduceIte, ↓z_rd_nil, ↓z_ap_cons, ↓z_ap_nil, ↓z_or_move, ↓z_move, ↓evW_tmp, and_true, ↓z_exD_all, ↓z_exD_eq, ↓z_put, Nat.reduceLT, ↓z_drwK, ↓z_drw_binOp, ↓z_rd_const, ↓z_or_binOp, ↓z_binOp, ↓evW_const, ↓constW_int, inR_i64, Int.reduceNeg, Int.reduceLE, and_self, ↓z_bn_add, ↓wrW_i64, true_and, ↓z_exD_and, ↓z_drw_indexAddr, ↓z_or_indexAddr, ↓z_indexAddr, ↓y_ty95, ↓z_elTy_arr, ↓y_sz94, ↓z_ix_ptr, Nat.mul_one, Nat.zero_add, ↓z_drw_load, ↓z_or_load, ↓z_load, ↓y_ty94, ↓z_agTy_int, ↓loadW_ptr, ↓lkoW_cons, reduceCtorEq, ↓z_rd_f, ↓z_nth_int, List.length_append, List.length_take, hl, List.length_cons, List.length_nil, List.length_drop, ↓z_exD_ex, ↓y_ty114, h4', ↓wrW_u32, ↓z_drw_store, ↓z_ops_plain, ↓z_store, ↓z_cl_int, ↓z_store_ptr, List.length_map, ↓z_sps_int, ↓z_so_cons, ↓z_put_none, ↓z_ops_nil, ↓z_blk_nrm, ↓z_seq_nrm, ↓z_region, ↓z_lp_nrm, ↓z_wk, ↓z_wkE_cons, D.int.injEq, ↓z_wkE_nil, ↓z_wkO_cons, ↓z_wkO_nil]); (try simp only [Int.toNat_natCast])
      refine ⟨by omega, by omega, by omega, by omega, by omega, by omega, by omega, by omega, by omega, by omega, by omega, i + 1, by omega, by omega, by omega, ?_⟩
      rcases (by omega : i = 0 ∨ i = 1 ∨ i = 2 ∨ i = 3) with rfl | rfl | rfl | rfl
      all_goals simp [wI, adL, u32_add]
    · have : i = 4 := by omega
      subst this
      (simp -dsimp only [List.drop_zero, List.take_zero, List.nil_append, coe_int]); (try simp only [Int.toNat_natCast, Nat.mul_one, Bool.or_false, Bool.false_or, Bool.or_self, Bool.or_true])
      have hc : cmp8 s b = s8add s V := by unfold cmp8; rw [hV]
      rw [hc]
      exact ⟨by decide, by decide, by decide, rfl⟩
end Go.Abs

