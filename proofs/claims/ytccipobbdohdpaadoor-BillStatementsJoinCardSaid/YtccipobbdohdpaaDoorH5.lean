/-
  HASH, fifth walks: streams.
-/
import Derived.Test.YtccipobbdohdpaaDoorH4
namespace Go.Abs
open Go.Proofs
def strZ : Str := ⟨⟨0, 0, 0, 0, 0, 0, 0, 0⟩, List.replicate 64 0, 0⟩
set_option maxRecDepth 100000 in
set_option maxHeartbeats 8000000 in
theorem fn_Begin (G : Glob) : Fn G Tryd.prog 46 [] (.agg (strC str0)) := by
  refine Fn.mk (c := _) Tryd.func46 rfl rfl Tryd.ntmps46 Tryd.results46 ?_
  (simp -dsimp only [bodyW, List.length_nil, Nat.reduceLeDiff, wfL, ↓z_seq, ↓z_region, ↓z_ops_plain, ↓z_alloc, ↓y_zr99, ↓z_new, ↓z_nm_nil, Nat.reduceLT, ↓z_pg_env0, ↓z_put, ↓z_ops_nil, ↓z_seq_nrm, ↓z_build, ↓y_ty95, ↓z_blTy_arr, ↓y_zr95, ↓y_sz94, ↓z_bld_cons, ↓evW_const, ↓constW_int, inR_u32, Int.reduceLE, and_self, ↓z_cl_int, List.length_cons, Nat.zero_add, Nat.mul_one, Nat.reduceAdd, ↓spsW_cons, ↓reduceIte, ↓drW_cons, reduceCtorEq, Nat.reduceSub, ↓catW_cons, ↓catW_nil, ↓drW_nil, ↓z_cat_nil_r, ↓z_bld_nil, ↓y_ty99, ↓z_blTy_st, ↓y_fl99x0, ↓y_sz95, ↓evW_tmp, ↓lkW_cons, ↓z_cl_oag, ↓z_store, ↓y_sz99, ↓z_store_ptr, ↓lkoW_cons, ↓z_so_cons, ↓z_put_none, ↓z_ret, ↓z_end_rt, resLW, res1W, ↓z_agTy_st, ↓z_coeL_cons, ↓z_coeL_nil, ↓z_pack1, ↓loadW_ptr, ↓z_rd_t, ↓z_sub_c, ↓z_sub_nil, ↓z_coe_oag, ↓z_coeC_cons, ↓z_coeS_int, ↓z_coeC_nil, D.agg.injEq, true_and]); (try simp only [Int.toNat_natCast, Nat.mul_one, Bool.or_false, Bool.false_or, Bool.or_self, Bool.or_true])
  exact ⟨by decide +kernel, rfl⟩
set_option maxRecDepth 100000 in
set_option maxHeartbeats 8000000 in
theorem fn_Add (s : Str) (hb : s.blk.length = 64) (m : List UInt8) (hn : s.n + m.length ≤ 1000000000000000000) : Fn GH Tryd.prog 47 [.agg (strC s), .str m] (.agg (strC (addS s m))) := by
  refine Fn.mk (c := _) Tryd.func47 rfl rfl Tryd.ntmps47 Tryd.results47 ?_
  (simp -dsimp only [bodyW, List.length_cons, List.length_nil, Nat.zero_add, Nat.reduceAdd, Nat.reduceLeDiff, wfL, ↓z_seq, ↓z_region, ↓z_ops_plain, ↓z_box, ↓evW_tmp, ↓z_lk_env, ↓reduceIte, ↓z_cl_agg, nmC_str, ↓z_new, ↓z_nm_nil, Nat.reduceLT, ↓z_pg_env, ↓z_mn_agg, ↓z_mn_str, ↓z_pg_env0, ↓z_put, ↓z_alloc, ↓y_zr99, ↓z_nm_cons, ↓z_pg_cons, ↓z_mn_ptr, reduceCtorEq, ↓z_pg_nil, ↓z_ops_nil, ↓z_seq_nrm, ↓z_block, ↓z_loop, true_and])
  intro _ _
  refine hold_intro ⟨[], Nat, fun j => ⟨38, 2, [(1, .str (m.drop j)), (2, .ptr 0 0), (4, .ptr 1 0)], [(1, strC strZ), (0, strC (addS s (m.take j)))]⟩, fun j => j ≤ m.length, fun j => m.length - j, ?_, ?_⟩
  · (simp -dsimp only [↓z_ad_nil, ↓z_wk, ↓z_wkE_cons, ↓lkW_cons, Nat.reduceEqDiff, ↓reduceIte, reduceCtorEq, Nat.zero_add, D.str.injEq, ↓z_wkE_nil, and_self, and_true, ↓z_wkO_cons, ↓lkoW_cons, ↓z_wkO_nil, true_and]); (try simp only [Int.toNat_natCast, Nat.mul_one, Bool.or_false, Bool.false_or, Bool.or_self, Bool.or_true])
    exact ⟨0, by omega, rfl, rfl, rfl⟩
  rintro j hj
  obtain ⟨S, hS⟩ : ∃ S, addS s (m.take j) = S := ⟨_, rfl⟩
  have hSb : S.blk.length = 64 := by rw [← hS, addS_blk, hb]
  have hSn : S.n = s.n + j := by rw [← hS, addS_n, List.length_take]; omega
  have q1 := strC_n hSb
  (simp -dsimp only [↓z_seq, ↓z_region, ↓z_ops_plain, ↓z_move, ↓evW_tmp, ↓lkW_cons, ↓reduceIte, ↓z_put, Nat.reduceLT, ↓z_binOp, ↓evW_const, ↓constW_string, List.length_nil, maxLen_lit, Nat.reduceLeDiff, ↓z_bn_sneq, ↓z_ops_nil, ↓z_seq_nrm, ↓z_cond, ↓z_cnd, ↓z_gdt, ne_eq, ↓z_skip, ↓z_block, ↓z_fieldAddr, Nat.reduceEqDiff, ↓y_fl99x2, ↓y_sz97, reduceCtorEq, not_false_eq_true, ↓z_fa_ptr, ↓z_load, ↓y_ty97, ↓z_agTy_int, ↓loadW_ptr, ↓lkoW_cons, ↓z_rd_f, hS, Nat.zero_add, ↓constW_int, inR_u64, Int.reduceLE, and_self, ↓z_convert, ↓y_ty3, ↓z_cvt_int, ↓z_assign, ↓y_fl99x1, ↓y_sz96, ↓z_slice, ↓z_evO_some, ↓z_evO_none, ↓z_bo_none, ↓y_ty96, ↓z_seTy_arr, ↓y_sz5, ↓z_callb, ↓z_evL_cons, ↓z_evL_nil, ↓z_copy, ↓y_ty78, ↓z_slTy, ↓y_ty9, ↓z_seTy_str, ↓z_store, ↓z_put_none, inR_i64, Int.reduceNeg, ↓z_region_d, ↓y_mix, true_and, ↓z_blk_nrm, ↓z_lp_nrm, q1, ↓z_bn_rem, ↓z_rem_u64, Int.reduceEq, ↓z_cv_int, ↓z_cvi_u64_i64, ↓z_bo_some, ↓z_slc_ptr_ln, Nat.mul_one, Nat.reduceAdd, ↓z_src_str, ↓z_cpy_osw, ↓z_spl, List.length_drop, List.length_take, List.length_map, ↓z_so_cons, ↓z_slc_str_ln, ↓z_cvi_i64_u64, ↓z_store_ptr, ↓z_bn_add, ↓wrW_i64, ↓z_bn_eql, ↓z_wk, ↓z_wkE_cons, D.str.injEq, ↓z_wkE_nil, and_true, ↓z_wkO_cons, ↓z_wkO_nil, z_ite, z_sps, List.length_append, ↓z_exit, ↓z_seq_ext, ↓z_lp_ext, ↓z_blk_ext, ↓y_ty99, ↓y_sz99, ↓z_agTy_st, ↓z_rd_t, ↓z_cl_oag, ↓z_ret, ↓z_end_rt, resLW, res1W, ↓z_coeL_cons, ↓z_coeL_nil, ↓z_pack1, ↓z_coe_oag, D.agg.injEq, z_sub, Classical.not_not]); (try simp only [Int.toNat_natCast])
  refine ⟨fun hne => ?_, fun he => ?_⟩
  · have hjl : j < m.length := by
      rcases Nat.lt_or_ge j m.length with h | h
      · exact h
      · exact absurd (List.drop_of_length_le h) hne
    have e1 : IntKind.i64.wrap ((S.n : Int) % 64) = ((S.n % 64 : Nat) : Int) := by rw [IntKind.wrap_i64]; omega
    obtain ⟨A, hA⟩ : ∃ A, S.n % 64 = A := ⟨_, rfl⟩
    have hA64 : A < 64 := by omega
    obtain ⟨K, hK⟩ : ∃ K, min (m.length - j) (64 - A) = K := ⟨_, rfl⟩
    have hK0 : 0 < K ∧ K ≤ 64 - A ∧ K ≤ m.length - j := by omega
    have e2 : min K (m.length - j) = K := by omega
    obtain ⟨c, hc⟩ : ∃ c, (m.drop j).take K = c := ⟨_, rfl⟩
    have hcl : c.length = K := by rw [← hc, List.length_take, List.length_drop]; omega
    obtain ⟨B, hB⟩ : ∃ B, S.blk.take A ++ c ++ S.blk.drop (A + K) = B := ⟨_, rfl⟩
    have hBl : B.length = 64 := by rw [← hB]; simp; omega
    have q2 : (strC S).take (8 + A) ++ ((m.drop j).map bD).take K ++ (strC S).drop (8 + A + K) = strC ⟨S.st, B, S.n⟩ := by
      rw [← List.map_take, hc, ← hcl, strC_setB hSb (by omega), hcl, hB]
    have q3 := strC_n (s := ⟨S.st, B, S.n⟩) hBl
    have e3 : IntKind.u64.wrap (K : Int) = (K : Int) := by rw [IntKind.wrap_u64]; omega
    have e4 : IntKind.u64.wrap ((S.n : Int) + (K : Int)) = ((S.n + K : Nat) : Int) := by rw [IntKind.wrap_u64]; omega
    have q4 : (strC ⟨S.st, B, S.n⟩).take 72 ++ [D.int .u64 ((S.n + K : Nat) : Int)] ++ (strC ⟨S.st, B, S.n⟩).drop 73 = strC ⟨S.st, B, S.n + K⟩ := strC_setN (s := ⟨S.st, B, S.n⟩) hBl (S.n + K)
    have l1 := strC_len hSb
    have l2 := strC_len (s := ⟨S.st, B, S.n⟩) hBl
    have l3 := strC_len (s := ⟨S.st, B, S.n + K⟩) hBl
    rw [e1, hA, Int.toNat_natCast, hK, e2, l1, q2, q3]
    refine ⟨by omega, by omega, by omega, by omega, by omega, by omega, ?_⟩
    (simp -dsimp only [↓z_bn_add, ↓wrW_u64, ↓z_cl_int, e3, e4, List.length_cons, List.length_nil, Nat.zero_add, Int.reduceNeg, q4, true_and])
    have hstep : addS s (m.take (j + K)) = ⟨if A + K = 64 then cmp8 S.st B else S.st, B, S.n + K⟩ := by
      rw [List.take_add, addS_app, hS, hc, addS_piece c S hSb (by omega) (by rw [hA, hcl]; omega), hA, hcl, hB]
    have hdrop : List.take (m.length - j - K) (List.drop K (List.drop j m)) = List.drop (j + K) m := by
      rw [List.drop_drop, List.take_of_length_le (by rw [List.length_drop]; omega)]
    refine ⟨by omega, by omega, fun h64 => ?_, fun h64 => ⟨j + K, by omega, by omega, hdrop, by rw [hstep, if_neg (by omega)]⟩⟩
    refine rgn_d (by decide +kernel) ?_
    have q5 := strC_st ⟨S.st, B, S.n + K⟩
    have q6 := strC_blk (s := ⟨S.st, B, S.n + K⟩) hBl
    (simp -dsimp only [↓z_drw_fieldAddr, ↓z_drwS, ↓z_grd_none, ↓z_withE, ↓z_rd_tmp, ↓lkW_cons, Nat.reduceEqDiff, ↓reduceIte, ↓z_rd_nil, ↓z_ap_cons, ↓z_ap_nil, ↓z_or_fieldAddr, ↓z_fieldAddr, ↓evW_tmp, ↓y_fl99x0, ↓y_sz95, ne_eq, reduceCtorEq, not_false_eq_true, ↓z_fa_ptr, Nat.zero_add, e3, e4, Nat.reduceAdd, q4, and_true, true_and, ↓z_exD_all, ↓z_exD_eq, ↓z_put, Nat.reduceLT, ↓z_drwK, ↓z_drw_load, ↓z_or_load, ↓z_load, ↓y_ty95, ↓z_agTy_arr, ↓loadW_ptr, ↓lkoW_cons, ↓z_rd_t, l3, Nat.reduceLeDiff, z_sub, q5, ↓y_fl99x1, ↓y_sz96, ↓z_drw_slice, ↓z_oLn, List.append_nil, List.length_drop, hK, Nat.mul_one, ↓z_or_slice, ↓z_slice, ↓z_evO_none, ↓z_bo_none, ↓y_ty96, ↓z_seTy_arr, ↓y_sz5, ↓z_slc_ptr_nn, maxLen_lit, ↓z_drw_callv, ↓z_rd_func])
    refine ex_mk (.agg (s8C (cmp8 S.st B))) (fun E => ?_) ?_
    · (simp -dsimp only [↓z_ap_cons, ↓z_ap_nil, ↓z_callv, ↓evW_func, ↓z_evL_cons, ↓evW_tmp, ↓lkW_cons, ↓reduceIte, Nat.reduceEqDiff, ↓z_evL_nil, ↓z_fun0, ↓z_coeL_cons, ↓z_coe_oag, e3, e4, Nat.reduceAdd, q4, ↓z_coe_osw, ↓lkoW_cons, reduceCtorEq, ↓z_allP_app, ↓z_allP_cons, ↓z_isP_int, ↓z_allP_nil, and_self, and_true, Nat.mul_one, l3, Nat.reduceLeDiff, ↓z_coeL_nil, z_sub, true_and])
      rw [coe_s8]
      refine ⟨⟨fun c hc => flS_isP (flS_str _ c (List.mem_of_mem_take hc)), fun c hc => flS_isP (flS_str _ c (List.mem_of_mem_drop hc))⟩, ?_⟩
      exact call_fnL ((fn_compress S.st B hBl).inp (by rw [q6])) (flS_s8 _) fun _ => ⟨rfl, rfl⟩
    (simp -dsimp only [↓z_put, Nat.reduceLT, ↓z_drwK, ↓z_drw_fieldAddr, ↓z_drwS, ↓z_grd_none, ↓z_withE, ↓z_rd_tmp, ↓lkW_cons, Nat.reduceEqDiff, ↓reduceIte, ↓z_rd_nil, ↓z_ap_cons, ↓z_ap_nil, ↓z_or_fieldAddr, ↓z_fieldAddr, ↓evW_tmp, ↓y_fl99x0, ↓y_sz95, ne_eq, reduceCtorEq, not_false_eq_true, ↓z_fa_ptr, Nat.zero_add, e3, e4, Nat.reduceAdd, q4, and_true, true_and, ↓z_exD_all, ↓z_exD_eq, ↓z_drw_store, ↓z_ops_plain, ↓z_store, ↓z_cl_agg, ↓z_store_ptr, ↓lkoW_cons, l3, Nat.reduceLeDiff, ↓z_so_cons, ↓z_put_none, ↓z_ops_nil, ↓z_blk_nrm, ↓z_lp_nrm, ↓z_wk, ↓z_wkE_cons, List.length_drop, hK, D.str.injEq, ↓z_wkE_nil, and_self, ↓z_wkO_cons, ↓z_wkO_nil, z_sps]); (try simp only [Int.toNat_natCast, Nat.mul_one, Bool.or_false, Bool.false_or, Bool.or_self, Bool.or_true])
    exact ⟨rfl, j + K, by omega, by omega, hdrop, by rw [strC_setSt, hstep, if_pos (by omega)]⟩
  · have hjm : j = m.length := by
      have := congrArg List.length he
      rw [List.length_drop] at this
      simp at this; omega
    have hSm : addS s m = S := by rw [← hS, hjm, List.take_length]
    have l1 := strC_len hSb
    have l2 : (strC strZ).length = 73 := strC_len rfl
    have t1 : List.take 73 (strC S) = strC S := List.take_of_length_le (by omega)
    have t2 : List.drop 73 (strC strZ) = [] := List.drop_of_length_le (by omega)
    (simp -dsimp only [l1, Nat.reduceLeDiff, Nat.reduceSub, l2, List.drop_zero, t1, List.take_zero, List.nil_append, t2, List.append_nil, coe_str, true_and]); (try simp only [Int.toNat_natCast, Nat.mul_one, Bool.or_false, Bool.false_or, Bool.or_self, Bool.or_true])
    exact ⟨rfl, by decide, by rw [hSm]⟩
end Go.Abs

