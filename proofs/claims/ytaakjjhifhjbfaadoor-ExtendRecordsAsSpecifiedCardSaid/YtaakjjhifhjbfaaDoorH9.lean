/-
  HASH, seventh walks: the hash of bytes; the reference's padding.
-/
import Derived.Test.YtaakjjhifhjbfaaDoorH6
section
namespace Go.Abs
open Go.Proofs
set_option maxRecDepth 100000 in
set_option maxHeartbeats 8000000 in
theorem fn_hSum (b : List UInt8) (hb : b.length ≤ 10000000000) : Fn GH Tryd.prog 78 [.sl 1 b.length (b.map bD)] (.agg ((sha b).map bD)) := by
  refine Fn.mk (c := _) Tryd.func78 rfl rfl Tryd.ntmps78 Tryd.results78 ?_
  (simp -dsimp only [bodyW, List.length_cons, List.length_nil, Nat.zero_add, Nat.reduceLeDiff, wfL, ↓z_seq, ↓z_region, ↓z_ops_plain, ↓z_alloc, ↓y_zr107, ↓z_new, ↓z_nm_nil, Nat.reduceLT, ↓z_pg_env, ↓z_mn_sl, ↓z_pg_env0, ↓z_put, ↓z_ops_nil, ↓z_seq_nrm, ↓z_region_d, ↓y_mix, true_and])
  intro _
  refine rgn_d (by decide +kernel) ?_
  (simp -dsimp only [↓z_drw_callv, ↓z_grd_none, ↓z_withE, ↓z_rd_func, ↓z_rd_nil])
  refine ex_mk (.agg (strC str0)) (fun E => ?_) ?_
  · (simp -dsimp only [↓z_ap_nil, ↓z_callv, ↓evW_func, ↓z_evL_nil, ↓z_fun0, ↓z_coeL_nil]); (try simp only [Int.toNat_natCast, Nat.mul_one, Bool.or_false, Bool.false_or, Bool.or_self, Bool.or_true])
    exact call_fn (fn_Begin GH) fun _ => ⟨rfl, rfl⟩
  (simp -dsimp only [↓z_put, Nat.reduceLT, ↓z_drwK, ↓z_drw_move, ↓z_drwS, ↓z_grd_none, ↓z_withE, ↓z_rd_tmp, ↓lkW_cons, reduceCtorEq, ↓reduceIte, ↓z_rd_nil, ↓z_ap_cons, ↓z_ap_nil, ↓z_or_move, ↓z_move, ↓evW_tmp, Nat.zero_add, and_true, ↓z_exD_all, ↓z_exD_eq, ↓z_drw_convert, ↓z_or_convert, ↓y_ty27, ↓y_ty9, ↓z_cvR_sl, ↓z_convert, ↓z_cvt_bs, ↓y_ty5, ↓z_u8, ↓z_cv_bs_sl, ↓bsW_map, true_and, ↓z_drw_callv, ↓z_rd_func, Nat.reduceEqDiff])
  refine ex_mk (.agg (strC (addS str0 b))) (fun E => ?_) ?_
  · (simp -dsimp only [↓z_ap_cons, ↓z_ap_nil, ↓z_callv, ↓evW_func, ↓z_evL_cons, ↓evW_tmp, ↓lkW_cons, ↓reduceIte, Nat.reduceEqDiff, ↓z_evL_nil, ↓z_fun0, ↓z_coeL_cons, ↓z_coe_agg, ↓z_coe_str, ↓z_coeL_nil]); (try simp only [Int.toNat_natCast, Nat.mul_one, Bool.or_false, Bool.false_or, Bool.or_self, Bool.or_true])
    exact call_fn (fn_Add str0 rfl b (by simp [str0]; omega)) fun _ => ⟨rfl, rfl⟩
  (simp -dsimp only [↓z_put, Nat.reduceLT, ↓z_drwK, ↓z_drw_callv, ↓z_grd_none, ↓z_withE, ↓z_rd_func, ↓z_rd_tmp, ↓lkW_cons, ↓reduceIte, ↓z_rd_nil, true_and]); (try simp only [Int.toNat_natCast, Nat.mul_one, Bool.or_false, Bool.false_or, Bool.or_self, Bool.or_true])
  have hA : (addS str0 b).blk.length = 64 := by rw [addS_blk]; rfl
  have hN : (addS str0 b).n = b.length := by rw [addS_n]; simp [str0]
  refine ex_mk (.agg ((sha b).map bD)) (fun E => ?_) ?_
  · (simp -dsimp only [↓z_ap_cons, ↓z_ap_nil, ↓z_callv, ↓evW_func, ↓z_evL_cons, ↓evW_tmp, ↓lkW_cons, ↓reduceIte, ↓z_evL_nil, ↓z_fun0, ↓z_coeL_cons, ↓z_coe_agg, ↓z_coeL_nil]); (try simp only [Int.toNat_natCast, Nat.mul_one, Bool.or_false, Bool.false_or, Bool.or_self, Bool.or_true])
    exact call_fn (fn_Sum (addS str0 b) hA (by omega)) fun _ => ⟨rfl, rfl⟩
  have ls := sha_len b
  (simp -dsimp only [↓z_put, Nat.reduceLT, ↓z_drwK, ↓z_drw_store, ↓z_ops_plain, ↓z_store, ↓evW_tmp, ↓lkW_cons, Nat.reduceEqDiff, ↓reduceIte, ↓y_sz107, ↓z_cl_agg, List.length_map, ls, ↓z_store_ptr, ↓lkoW_cons, Nat.zero_add, List.length_cons, List.length_nil, Nat.reduceAdd, Nat.reduceLeDiff, ↓spsW_cons, ↓drW_cons, reduceCtorEq, Nat.reduceSub, ↓drW_nil, ↓z_cat_nil_r, ↓z_so_cons, ↓z_put_none, ↓z_ops_nil, ↓z_seq_nrm, ↓z_ret, ↓z_end_rt, resLW, res1W, ↓y_ty107, ↓z_agTy_arr, ↓z_coeL_cons, ↓z_coeL_nil, ↓z_pack1, ↓loadW_ptr, ↓z_rd_t, ↓z_sub_map, ↓z_coe_oag, ↓z_coeC_bytes, List.drop_zero, D.agg.injEq, true_and]); (try simp only [Int.toNat_natCast, Nat.mul_one, Bool.or_false, Bool.false_or, Bool.or_self, Bool.or_true])
  rw [List.take_of_length_le (by omega)]
set_option maxRecDepth 100000 in
set_option maxHeartbeats 8000000 in
theorem fn_padded (G : Glob) (b : List UInt8) (hb : b.length ≤ 10000000000) : FnS G Tryd.prog 74 [.sl 1 b.length (b.map bD)] 1 (b ++ padL b.length).length ((b ++ padL b.length).map bD) := by
  refine FnS.mk (c := _) Tryd.func74 rfl rfl Tryd.ntmps74 Tryd.results74 ?_
  (simp -dsimp only [bodyW, List.length_cons, List.length_nil, Nat.zero_add, Nat.reduceLeDiff, wfL, ↓z_seq, ↓z_region, ↓z_ops_plain, ↓z_assign, ↓evW_const, ↓constW_nils, ↓z_put, Nat.reduceLT, ↓z_ops_nil, ↓z_seq_nrm, ↓z_buildSlice, ↓y_ty27, ↓z_slTy, ↓y_sz5, Nat.mul_one, maxLen_lit, ↓y_zr5, ↓z_repL_0, ↓z_bld_nil, ↓z_allP_nil, ↓z_move, ↓evW_tmp, ↓lkW_cons, reduceCtorEq, ↓reduceIte, ↓z_lk_env, ↓z_callb, ↓z_evL_cons, Nat.reduceEqDiff, ↓z_evL_nil, ↓z_append, ↓z_nint_sl, ↓y_by5, ↓z_src_sl, ↓z_app_slx, ↓z_room, ↓z_new, ↓z_nm_nil, ↓z_pg_cons, ↓z_mn_sl, ↓z_mn_slx, ↓z_mn_nils, ↓z_pg_env, ↓z_pg_env0, ↓z_repL_s, ↓z_cat_nil_r, ↓z_bld_cons, ↓constW_int, inR_u8, Int.reduceLE, and_self, ↓z_cl_int, ↓spsW_cons, ↓drW_cons, ↓drW_nil, ↓z_allP_cons, ↓z_isP_int, ↓z_src_slx, ↓z_app_osl, ↓lkoW_cons, List.length_map, ↓z_nmC_bytes, ↓z_pgo_cons, ↓z_pgc_nm, ↓z_pgo_nil, ↓z_mn_osl, ↓z_pg_nil, ↓z_so_cons, ↓z_block, ↓z_loop, true_and, List.nil_append, ↓z_nmC_app, ↓z_nmC_nil, ↓z_envF_cons, ↓z_envF_nil])
  intro _
  have hz : zN b.length = (119 - b.length % 64) % 64 := rfl
  refine ⟨by omega, by omega, .inl ⟨by omega, by omega, ?_⟩⟩
  refine hold_intro ⟨[], Nat, fun a => ⟨37, 1, [(3, .osl 0 1 (b.length + (a + 1))), (0, .sl 1 b.length (b.map bD))], [(0, (b ++ padA b.length a).map bD)]⟩, fun a => a ≤ zN b.length, fun a => zN b.length - a, ?_, ?_⟩
  · (simp -dsimp only [↓z_ad_nil, ↓z_wk, ↓z_wkE_cons, ↓lkW_cons, ↓reduceIte, D.osl.injEq, true_and, reduceCtorEq, ↓z_wkE_nil, and_self, and_true, ↓z_wkO_cons, ↓lkoW_cons, ↓z_wkO_nil]); (try simp only [Int.toNat_natCast, Nat.mul_one, Bool.or_false, Bool.false_or, Bool.or_self, Bool.or_true])
    exact ⟨0, by omega, rfl, by rw [padA_0, List.map_append]; rfl⟩
  rintro a ha
  have la := padA_len (n := b.length) (a := a) (by omega)
  have em : ((b.length + (a + 1) : Nat) : Int).tmod 64 = (((b.length + (a + 1)) % 64 : Nat) : Int) := by rw [Int.tmod_eq_emod_of_nonneg (by omega)]; omega
  (simp -dsimp only [↓z_seq, ↓z_region, ↓z_ops_plain, ↓z_move, ↓evW_tmp, ↓lkW_cons, ↓reduceIte, ↓z_put, Nat.reduceLT, ↓z_callb, ↓z_evL_cons, ↓z_evL_nil, ↓z_len, ↓y_ty27, ↓z_ln_osl, ↓z_binOp, ↓evW_const, ↓constW_int, inR_i64, Int.reduceNeg, Int.reduceLE, and_self, ↓z_bn_rem, ↓z_rem_i64, ne_eq, Int.reduceEq, not_false_eq_true, ↓z_bn_neq, ↓z_ops_nil, ↓z_seq_nrm, ↓z_cond, ↓z_cnd, ↓z_gdt, em, ↓z_skip, ↓z_block, Nat.reduceEqDiff, ↓z_buildSlice, ↓z_slTy, ↓y_sz5, Nat.mul_one, Nat.reduceLeDiff, maxLen_lit, ↓y_zr5, List.length_cons, List.length_nil, Nat.zero_add, ↓z_repL_s, ↓z_repL_0, ↓z_cat_nil_r, ↓z_bld_cons, inR_u8, ↓z_cl_int, ↓spsW_cons, ↓drW_cons, reduceCtorEq, ↓drW_nil, ↓z_bld_nil, ↓z_allP_cons, ↓z_isP_int, ↓z_allP_nil, ↓z_append, ↓z_nint_sl, ↓y_by5, ↓z_src_slx, ↓z_app_osl, ↓lkoW_cons, List.length_map, List.length_append, la, ↓z_nmC_bytes, ↓z_room, ↓z_pgo_cons, ↓z_pgc_nm, ↓z_pgo_nil, ↓z_pg_cons, ↓z_mn_slx, ↓z_mn_osl, ↓z_mn_bool, ↓z_mn_int, ↓z_mn_sl, ↓z_pg_nil, ↓z_so_cons, ↓z_assign, ↓z_blk_nrm, ↓z_lp_nrm, ↓z_wk, ↓z_wkE_cons, D.osl.injEq, true_and, ↓z_wkE_nil, and_true, ↓z_wkO_cons, ↓z_wkO_nil, ↓z_exit, ↓z_seq_ext, ↓z_lp_ext, ↓z_blk_ext, ↓z_ln_sl, ↓z_convert, ↓y_ty3, ↓y_ty101, ↓z_cvt_int, ↓z_cv_int, ↓z_cvi_i64_u64, inR_u64, ↓z_bn_mul, ↓wrW_u64, ↓z_loop, z_ite, Classical.not_not])
  refine ⟨fun hc => ?_, fun hc => ?_⟩
  · refine ⟨by omega, by omega, a + 1, by omega, by omega, by omega, ?_⟩
    rw [padA_z (by omega), ← List.append_assoc, List.map_append (l₁ := b ++ padA b.length a)]; rfl
  · have e8 : IntKind.u64.wrap (8 * IntKind.u64.wrap (b.length : Int)) = ((8 * b.length : Nat) : Int) := by rw [IntKind.wrap_u64, IntKind.wrap_u64]; omega
    have haz : a = zN b.length := by omega
    subst haz
    refine hold_intro ⟨[], Nat, fun i => ⟨37, 1, [(5, .int .i64 i), (4, .int .u64 ((8 * b.length : Nat) : Int)), (3, .osl 0 1 (b.length + (zN b.length + i + 1)))], [(0, (b ++ padA b.length (zN b.length + i)).map bD)]⟩, fun i => i ≤ 8, fun i => 8 - i, ?_, ?_⟩
    · (simp -dsimp only [↓z_ad_nil, ↓z_wk, ↓z_wkE_cons, ↓lkW_cons, ↓reduceIte, D.int.injEq, true_and, Nat.reduceEqDiff, e8, D.osl.injEq, ↓z_wkE_nil, and_true, ↓z_wkO_cons, ↓lkoW_cons, ↓z_wkO_nil]); (try simp only [Int.toNat_natCast, Nat.mul_one, Bool.or_false, Bool.false_or, Bool.or_self, Bool.or_true])
      exact ⟨0, by omega, ⟨rfl, rfl⟩, rfl⟩
    rintro i hi
    have la := padA_len (n := b.length) (a := zN b.length + i) (by omega)
    by_cases h8 : i < 8
    · have e56 : (56 : Int) - 8 * (i : Int) = ((56 - 8 * i : Nat) : Int) := by omega
      have esh : shrI .u64 ((8 * b.length : Nat) : Int) ((56 - 8 * i : Nat) : Int) = (((8 * b.length) >>> (56 - 8 * i) : Nat) : Int) := u64_shr _ _ (by omega)
      have eb := bD_of ((8 * b.length) >>> (56 - 8 * i))
      have hP := padA_b (n := b.length) h8
      (simp -dsimp only [↓z_seq, ↓z_region, ↓z_ops_plain, ↓z_move, ↓evW_tmp, ↓lkW_cons, ↓reduceIte, ↓z_put, Nat.reduceLT, ↓z_binOp, ↓evW_const, ↓constW_int, inR_i64, Int.reduceNeg, Int.reduceLE, and_self, ↓z_bn_lss, ↓z_ops_nil, ↓z_seq_nrm, ↓z_cond, ↓z_cnd, ↓z_gdt, ↓z_skip, ↓z_block, Nat.reduceEqDiff, ↓z_bn_mul, ↓wrW_i64, ↓z_bn_sub, e56, ↓z_bn_shr, ↓z_convert, ↓y_ty101, ↓y_ty5, ↓z_cvt_int, ↓z_cv_int, ↓z_cvi_u64_u8, ↓z_buildSlice, ↓y_ty27, ↓z_slTy, ↓y_sz5, Nat.mul_one, Nat.reduceLeDiff, maxLen_lit, ↓y_zr5, List.length_cons, List.length_nil, Nat.zero_add, ↓z_repL_s, ↓z_repL_0, ↓z_cat_nil_r, ↓z_bld_cons, ↓z_cl_int, esh, eb, ↓spsW_cons, ↓drW_cons, reduceCtorEq, ↓drW_nil, ↓z_bld_nil, ↓z_allP_cons, ↓z_isP_int, ↓z_allP_nil, ↓z_callb, ↓z_evL_cons, ↓z_evL_nil, ↓z_append, ↓z_nint_sl, ↓y_by5, ↓z_src_slx, ↓z_app_osl, ↓lkoW_cons, List.length_map, List.length_append, la, ↓z_nmC_bytes, ↓z_room, ↓z_pgo_cons, ↓z_pgc_nm, ↓z_pgo_nil, ↓z_pg_cons, ↓z_mn_slx, ↓z_mn_int, ↓z_mn_osl, ↓z_mn_bool, ↓z_pg_nil, ↓z_so_cons, ↓z_assign, ↓z_blk_nrm, ↓z_bn_add, ↓z_lp_nrm, ↓z_wk, ↓z_wkE_cons, D.int.injEq, true_and, D.osl.injEq, ↓z_wkE_nil, and_true, ↓z_wkO_cons, ↓z_wkO_nil, ↓z_exit, ↓z_seq_ext, ↓z_lp_ext, ↓z_blk_ext, ↓z_ret, ↓z_end_rt, resLW, res1W, ↓z_own_osl, ↓z_allP_bytes, z_ite]); (try simp only [Int.toNat_natCast, Nat.mul_one, Bool.or_false, Bool.false_or, Bool.or_self, Bool.or_true])
      refine ⟨fun _ => ⟨by omega, by omega, by omega, by omega, by omega, by omega, i + 1, by omega, by omega, ⟨by omega, by omega⟩, ?_⟩, fun h => absurd h (by omega)⟩
      rw [show zN b.length + (i + 1) = zN b.length + i + 1 from rfl, hP, ← List.append_assoc, List.map_append (l₁ := b ++ padA b.length (zN b.length + i))]; rfl
    · have hi8 : i = 8 := by omega
      subst hi8
      (simp -dsimp only [↓z_seq, ↓z_region, ↓z_ops_plain, ↓z_move, ↓evW_tmp, ↓lkW_cons, ↓reduceIte, ↓z_put, Nat.reduceLT, ↓z_binOp, ↓evW_const, ↓constW_int, inR_i64, Int.reduceNeg, Int.reduceLE, and_self, ↓z_bn_lss, ↓z_ops_nil, ↓z_seq_nrm, ↓z_cond, ↓z_cnd, ↓z_gdt, ↓z_skip, ↓z_block, Nat.reduceEqDiff, ↓z_bn_mul, ↓wrW_i64, ↓z_bn_sub, ↓z_bn_shr, ↓z_convert, ↓y_ty101, ↓y_ty5, ↓z_cvt_int, ↓z_cv_int, ↓z_cvi_u64_u8, ↓z_buildSlice, ↓y_ty27, ↓z_slTy, ↓y_sz5, Nat.mul_one, Nat.reduceLeDiff, maxLen_lit, ↓y_zr5, List.length_cons, List.length_nil, Nat.zero_add, ↓z_repL_s, ↓z_repL_0, ↓z_cat_nil_r, ↓z_bld_cons, ↓z_cl_int, ↓spsW_cons, ↓drW_cons, reduceCtorEq, ↓drW_nil, ↓z_bld_nil, ↓z_allP_cons, ↓z_isP_int, ↓z_allP_nil, ↓z_callb, ↓z_evL_cons, ↓z_evL_nil, ↓z_append, ↓z_nint_sl, ↓y_by5, ↓z_src_slx, ↓z_app_osl, ↓lkoW_cons, List.length_map, List.length_append, la, ↓z_nmC_bytes, ↓z_room, ↓z_pgo_cons, ↓z_pgc_nm, ↓z_pgo_nil, ↓z_pg_cons, ↓z_mn_slx, ↓z_mn_int, ↓z_mn_osl, ↓z_mn_bool, ↓z_pg_nil, ↓z_so_cons, ↓z_assign, ↓z_blk_nrm, ↓z_bn_add, ↓z_lp_nrm, Nat.reduceSub, ↓z_wk, ↓z_wkE_cons, D.int.injEq, true_and, D.osl.injEq, ↓z_wkE_nil, and_true, ↓z_wkO_cons, ↓z_wkO_nil, ↓z_exit, ↓z_seq_ext, ↓z_lp_ext, ↓z_blk_ext, ↓z_ret, ↓z_end_rt, resLW, res1W, ↓z_own_osl, ↓z_allP_bytes, z_ite]); (try simp only [Int.toNat_natCast, Nat.mul_one, Bool.or_false, Bool.false_or, Bool.or_self, Bool.or_true])
      have lp := padL_len b.length
      exact ⟨fun h => absurd h (by decide), fun _ => ⟨by omega, by rw [padA_end]⟩⟩
theorem s8C_w (s : S8) {i : Nat} (h : i < 8) (k : D → Prop) : nthW (s8C s) i k = k (.int .u32 (((s8L s).getD i 0 : Nat) : Int)) := by
  rcases (by omega : i = 0 ∨ i = 1 ∨ i = 2 ∨ i = 3 ∨ i = 4 ∨ i = 5 ∨ i = 6 ∨ i = 7) with rfl | rfl | rfl | rfl | rfl | rfl | rfl | rfl <;> exact nthW_iff rfl
theorem u32_notr (a : Nat) : bits .xor .u32 (a : Int) 4294967295 = ((xo 4294967295 a : Nat) : Int) := by rw [xo_comm]; exact u32_xor a 4294967295
/-- The state while the words of a block's end are added, one by one. -/
def adF (s v : S8) (i : Nat) : List Nat := [if 0 < i then ad s.a v.a else s.a, if 1 < i then ad s.b v.b else s.b, if 2 < i then ad s.c v.c else s.c, if 3 < i then ad s.d v.d else s.d,
  if 4 < i then ad s.e v.e else s.e, if 5 < i then ad s.f v.f else s.f, if 6 < i then ad s.g v.g else s.g, if 7 < i then ad s.h v.h else s.h]
set_option maxRecDepth 100000 in
set_option maxHeartbeats 8000000 in
theorem fn_rSum (b : List UInt8) (hb : b.length ≤ 10000000000) : Fn GK Tryd.prog 67 [.sl 1 b.length (b.map bD)] (.agg ((sha b).map bD)) := by
  refine Fn.mk (c := _) Tryd.func67 rfl rfl Tryd.ntmps67 Tryd.results67 ?_
  (simp -dsimp only [bodyW, List.length_cons, List.length_nil, Nat.zero_add, Nat.reduceLeDiff, wfL, ↓z_seq, ↓z_region, ↓z_ops_plain, ↓z_alloc, ↓y_zr107, ↓z_new, ↓z_nm_nil, Nat.reduceLT, ↓z_pg_env, ↓z_mn_sl, ↓z_pg_env0, ↓z_put, ↓z_ops_nil, ↓z_seq_nrm, ↓z_build, ↓y_ty99, ↓z_blTy_arr, ↓y_zr99, ↓y_sz98, ↓z_bld_cons, ↓evW_const, ↓constW_int, inR_u32, Int.reduceLE, and_self, ↓z_cl_int, Nat.mul_one, Nat.reduceAdd, ↓spsW_cons, ↓reduceIte, ↓drW_cons, reduceCtorEq, Nat.reduceSub, ↓catW_cons, ↓catW_nil, ↓drW_nil, ↓z_cat_nil_r, ↓z_bld_nil, ↓z_nm_cons, ↓z_nmC_cons, ↓z_mn'_int, ↓z_nmC_nil, ↓z_pg_cons, ↓z_mn_oag, ↓z_mnL_int, ↓z_mnL_nil, ↓z_mn_ptr, ↓z_pg_nil, ↓z_store, ↓evW_tmp, ↓lkW_cons, Nat.reduceEqDiff, ↓y_sz99, ↓z_cl_oag, ↓z_store_ptr, ↓lkoW_cons, ↓z_so_cons, ↓z_put_none, ↓z_move, ↓z_callv, ↓evW_func, ↓z_evL_cons, ↓z_evL_nil, ↓z_fun0, ↓z_coeL_cons, ↓z_coe_sl, ↓z_coeL_nil, true_and])
  intro _
  have hpl := pad_len b.length
  have hM : (b ++ padL b.length).length = b.length + (padL b.length).length := List.length_append
  have hsha := sha_blk b
  have hC := (fn_padded GK b hb).fn
  have lpl := padL_len b.length
  have lz : zN b.length = (119 - b.length % 64) % 64 := rfl
  generalize b ++ padL b.length = M at hM hsha hC
  refine call_fn hC fun _ => ?_
  (simp -dsimp only [↓z_put, Nat.reduceLT, ↓z_ops_plain, ↓z_assign, ↓evW_tmp, ↓lkW_cons, ↓reduceIte, ↓z_ops_nil, ↓z_seq_nrm, ↓z_seq, ↓z_region, ↓evW_const, ↓constW_int, inR_i64, Int.reduceNeg, Int.reduceLE, and_self, ↓z_block, ↓z_loop, true_and])
  refine hold_intro ⟨[], Nat, fun k => ⟨148, 2, [(5, .int .i64 ((64 * k : Nat) : Int)), (4, .sl 1 M.length (M.map bD)), (3, .ptr 1 0), (2, .ptr 0 0)], [(1, s8C (blkS M k)), (0, (List.replicate 32 (0 : UInt8)).map bD)]⟩, fun k => 64 * k ≤ M.length, fun k => M.length - 64 * k, ?_, ?_⟩
  · (simp -dsimp only [↓z_ad_nil, ↓z_wk, ↓z_wkE_cons, ↓lkW_cons, ↓reduceIte, D.int.injEq, true_and, Nat.reduceEqDiff, Nat.zero_add, ↓z_wkE_nil, and_self, and_true, ↓z_wkO_cons, ↓lkoW_cons, reduceCtorEq, ↓z_wkO_nil]); (try simp only [Int.toNat_natCast, Nat.mul_one, Bool.or_false, Bool.false_or, Bool.or_self, Bool.or_true])
    exact ⟨0, by omega, rfl, rfl, rfl⟩
  rintro k hk
  obtain ⟨S, hS⟩ : ∃ S, blkS M k = S := ⟨_, rfl⟩
  have eS : s8C (blkS M k) = [.int .u32 S.a, .int .u32 S.b, .int .u32 S.c, .int .u32 S.d, .int .u32 S.e, .int .u32 S.f, .int .u32 S.g, .int .u32 S.h] := by rw [hS]; rfl
  by_cases hlt : 64 * k < M.length
  · have e1 : (((64 * k : Nat) : Int) + 64).toNat - 64 * k = 64 := by omega
    obtain ⟨C, hC⟩ : ∃ C, (M.drop (64 * k)).take 64 = C := ⟨_, rfl⟩
    have hCl : C.length = 64 := by rw [← hC, List.length_take, List.length_drop]; omega
    have hB : blkS M (k + 1) = cmp8 S C := by rw [blkS, hS, hC]
    have e64 : ∀ z : Nat, ((64 * z : Nat) : Int) + 64 = ((64 * (z + 1) : Nat) : Int) := fun z => by omega
    (simp -dsimp only [↓z_seq, ↓z_region, ↓z_ops_plain, ↓z_move, ↓evW_tmp, ↓lkW_cons, ↓reduceIte, ↓z_put, Nat.reduceLT, Nat.reduceEqDiff, ↓z_callb, ↓z_evL_cons, ↓z_evL_nil, ↓z_len, ↓y_ty27, ↓z_ln_sl, ↓z_binOp, ↓z_bn_lss, ↓z_ops_nil, ↓z_seq_nrm, ↓z_cond, ↓z_cnd, ↓z_gdt, ↓z_skip, ↓z_block, ↓evW_const, ↓constW_int, inR_i64, Int.reduceNeg, Int.reduceLE, and_self, ↓z_bn_add, ↓wrW_i64, ↓z_slice, ↓z_evO_some, ↓z_bo_some, ↓z_evO_none, ↓z_bo_none, ↓z_seTy_sl, ↓y_sz5, ↓z_slc_sl_lh, ↓z_sub_map, ↓z_callv, ↓evW_func, ↓z_fun0, ↓z_coeL_cons, ↓z_coe_sl, ↓z_coeL_nil, true_and, ↓z_exit, ↓z_seq_ext, ↓z_lp_ext, ↓z_blk_ext, ↓z_alloc, ↓y_zr107, ↓z_new, ↓z_nm_cons, ↓z_nmC_bytes, ↓z_nm_nil, ↓z_pg_cons, ↓z_mn_bool, ↓z_mn_int, ↓z_mn_sl, ↓z_mn_ptr, reduceCtorEq, ↓z_pg_nil, ↓z_assign, ↓z_loop, z_ite]); (try simp only [Int.toNat_natCast])
    refine ⟨fun _ => ⟨by omega, by omega, by omega, by omega, ?_⟩, fun h => absurd h (by omega)⟩
    refine call_wk ⟨148, 2, [(5, .int .i64 ((64 * k : Nat) : Int)), (4, .sl 1 M.length (M.map bD)), (3, .ptr 1 0), (2, .ptr 0 0)], [(1, [.int .u32 S.a, .int .u32 S.b, .int .u32 S.c, .int .u32 S.d, .int .u32 S.e, .int .u32 S.f, .int .u32 S.g, .int .u32 S.h]), (0, (List.replicate 32 (0 : UInt8)).map bD)]⟩ (by (simp -dsimp only [↓z_wk, ↓z_wkE_cons, ↓lkW_cons, Nat.reduceEqDiff, ↓reduceIte, ↓z_wkE_nil, and_self, ↓z_wkO_cons, ↓lkoW_cons, eS, reduceCtorEq, ↓z_wkO_nil]); (try simp only [Int.toNat_natCast, Nat.mul_one, Bool.or_false, Bool.false_or, Bool.or_self, Bool.or_true])) (call0_fn ((fn_words GK C hCl).inp (by rw [e1, Nat.mul_one, Nat.mul_one, hC])) fun _ => ?_)
    have hz : (wI (sch C 64)).length = 64 := by rw [wI_len, sch_len]
    (simp -dsimp only [↓z_put, Nat.reduceLT, ↓z_ops_plain, ↓z_alloc, ↓y_zr121, ↓z_new, ↓z_nm_cons, ↓z_nmC_cons, ↓z_mn'_int, ↓z_nmC_nil, and_self, ↓z_nmC_bytes, ↓z_nm_nil, ↓z_pg_cons, ↓z_mn_agg, ↓z_mn_int, ↓z_mn_sl, ↓z_mn_ptr, Nat.reduceEqDiff, ↓reduceIte, reduceCtorEq, ↓z_pg_nil, ↓z_store, ↓evW_tmp, ↓lkW_cons, ↓y_sz121, ↓z_cl_agg, List.length_map, hz, ↓z_store_ptr, ↓lkoW_cons, Nat.zero_add, List.length_cons, List.length_nil, Nat.reduceAdd, Nat.reduceLeDiff, ↓spsW_cons, ↓drW_cons, Nat.reduceSub, ↓drW_nil, ↓z_cat_nil_r, ↓z_so_cons, ↓z_put_none, ↓z_ops_nil, ↓z_seq_nrm, ↓z_seq, ↓z_region, ↓z_load, ↓y_ty99, ↓y_sz99, ↓z_agTy_arr, ↓loadW_ptr, ↓z_rd_t, ↓z_sub_c, ↓z_sub_nil, ↓y_zr99, ↓z_nmC_int, ↓z_mn_oag, ↓z_mnL_int, ↓z_mnL_nil, ↓z_cl_oag, ↓z_assign, ↓evW_const, ↓constW_int, inR_i64, Int.reduceNeg, Int.reduceLE, ↓z_block, ↓z_loop, true_and])
    refine hold_intro ⟨[], Nat, fun t => ⟨148, 4, [(8, .int .i64 t), (7, .ptr 3 0), (6, .ptr 2 0), (5, .int .i64 ((64 * k : Nat) : Int)), (4, .sl 1 M.length (M.map bD)), (3, .ptr 1 0), (2, .ptr 0 0)],
      [(3, [.int .u32 (rnds S (sch C 64) t).a, .int .u32 (rnds S (sch C 64) t).b, .int .u32 (rnds S (sch C 64) t).c, .int .u32 (rnds S (sch C 64) t).d, .int .u32 (rnds S (sch C 64) t).e, .int .u32 (rnds S (sch C 64) t).f, .int .u32 (rnds S (sch C 64) t).g, .int .u32 (rnds S (sch C 64) t).h]), (2, (wI (sch C 64)).map (D.int .u32)), (1, [.int .u32 S.a, .int .u32 S.b, .int .u32 S.c, .int .u32 S.d, .int .u32 S.e, .int .u32 S.f, .int .u32 S.g, .int .u32 S.h]), (0, (List.replicate 32 (0 : UInt8)).map bD)]⟩, fun t => t ≤ 64, fun t => 64 - t, ?_, ?_⟩
    · (simp -dsimp only [↓z_ad_nil, ↓z_wk, ↓z_wkE_cons, ↓lkW_cons, ↓reduceIte, D.int.injEq, true_and, Nat.reduceEqDiff, Nat.reduceAdd, ↓z_wkE_nil, and_self, and_true, ↓z_wkO_cons, ↓lkoW_cons, List.cons.injEq, reduceCtorEq, ↓z_wkO_nil]); (try simp only [Int.toNat_natCast, Nat.mul_one, Bool.or_false, Bool.false_or, Bool.or_self, Bool.or_true])
      exact ⟨0, by omega, rfl, rfl, rfl, rfl, rfl, rfl, rfl, rfl, rfl⟩
    rintro t ht
    have hk : (wI kt).length = 64 := by decide
    obtain ⟨R, hR⟩ : ∃ R, rnds S (sch C 64) t = R := ⟨_, rfl⟩
    (simp -dsimp only [↓z_seq, ↓z_region, ↓z_ops_plain, ↓z_move, ↓evW_tmp, ↓lkW_cons, ↓reduceIte, ↓z_put, Nat.reduceLT, ↓z_binOp, ↓evW_const, ↓constW_int, inR_i64, Int.reduceNeg, Int.reduceLE, and_self, ↓z_bn_lss, ↓z_ops_nil, ↓z_seq_nrm, ↓z_cond, ↓z_cnd, ↓z_gdt, ↓z_skip, ↓z_block, ↓z_region_d, ↓y_mix, true_and, ↓z_exit, ↓z_seq_ext, ↓z_lp_ext, ↓z_blk_ext, ↓z_assign, ↓z_loop, z_ite]); (try simp only [Int.toNat_natCast, Nat.mul_one, Bool.or_false, Bool.false_or, Bool.or_self, Bool.or_true])
    refine ⟨fun ht6 => ?_, fun ht6 => ?_⟩
    · refine rgn_d (by decide +kernel) ?_
      (simp -dsimp only [↓z_drw_indexAddr, ↓z_drwS, ↓z_grd_none, ↓z_withE, ↓z_rd_tmp, ↓lkW_cons, Nat.reduceEqDiff, ↓reduceIte, ↓z_rd_const, ↓z_rd_nil, ↓z_ap_cons, ↓z_ap_nil, ↓z_or_indexAddr, ↓z_indexAddr, ↓evW_tmp, ↓evW_const, ↓constW_int, inR_i64, Int.reduceNeg, Int.reduceLE, and_self, ↓y_ty99, ↓z_elTy_arr, ↓y_sz98, ↓z_ix_ptr, Int.reduceToNat, Nat.mul_one, Nat.zero_add, hR, and_true, true_and, ↓z_exD_all, ↓z_exD_and, ↓z_exD_eq, ↓z_put, Nat.reduceLT, ↓z_drwK, ↓z_drw_load, ↓z_or_load, ↓z_load, ↓y_ty98, ↓z_agTy_int, ↓loadW_ptr, ↓lkoW_cons, ↓z_rd_f, ↓nthW_cons, reduceCtorEq, Nat.reduceSub, ↓z_drw_callv, ↓z_rd_func]); (try simp only [Int.toNat_natCast, Nat.mul_one, Bool.or_false, Bool.false_or, Bool.or_self, Bool.or_true])
      refine ⟨by omega, by omega, ex_mk (.int .u32 ((rr R.e 6 : Nat) : Int)) (fun E => by (simp -dsimp only [↓z_ap_cons, ↓z_ap_nil, ↓z_callv, ↓evW_func, ↓z_evL_cons, ↓evW_tmp, ↓lkW_cons, ↓reduceIte, ↓evW_const, ↓constW_int, inR_i64, Int.reduceNeg, Int.reduceLE, and_self, ↓z_evL_nil, ↓z_fun0, ↓z_coeL_cons, ↓z_coe_int, ↓z_coeL_nil, true_and]); (try simp only [Int.toNat_natCast, Nat.mul_one, Bool.or_false, Bool.false_or, Bool.or_self, Bool.or_true]); exact call_fn (fn_rotr GK R.e 6 (by decide) (by decide)) fun _ => ⟨rfl, rfl⟩) ?_⟩
      (simp -dsimp only [↓z_put, Nat.reduceLT, ↓z_drwK, ↓z_drw_indexAddr, ↓z_drwS, ↓z_grd_none, ↓z_withE, ↓z_rd_tmp, ↓lkW_cons, Nat.reduceEqDiff, ↓reduceIte, ↓z_rd_const, ↓z_rd_nil, ↓z_ap_cons, ↓z_ap_nil, ↓z_or_indexAddr, ↓z_indexAddr, ↓evW_tmp, ↓evW_const, ↓constW_int, inR_i64, Int.reduceNeg, Int.reduceLE, and_self, ↓y_ty99, ↓z_elTy_arr, ↓y_sz98, ↓z_ix_ptr, Int.reduceToNat, Nat.mul_one, Nat.zero_add, hR, and_true, true_and, ↓z_exD_all, ↓z_exD_and, ↓z_exD_eq, ↓z_drw_load, ↓z_or_load, ↓z_load, ↓y_ty98, ↓z_agTy_int, ↓loadW_ptr, ↓lkoW_cons, ↓z_rd_f, ↓nthW_cons, reduceCtorEq, Nat.reduceSub, ↓z_drw_callv, ↓z_rd_func]); (try simp only [Int.toNat_natCast, Nat.mul_one, Bool.or_false, Bool.false_or, Bool.or_self, Bool.or_true])
      refine ⟨by omega, ex_mk (.int .u32 ((rr R.e 11 : Nat) : Int)) (fun E => by (simp -dsimp only [↓z_ap_cons, ↓z_ap_nil, ↓z_callv, ↓evW_func, ↓z_evL_cons, ↓evW_tmp, ↓lkW_cons, ↓reduceIte, ↓evW_const, ↓constW_int, inR_i64, Int.reduceNeg, Int.reduceLE, and_self, ↓z_evL_nil, ↓z_fun0, ↓z_coeL_cons, ↓z_coe_int, ↓z_coeL_nil, true_and]); (try simp only [Int.toNat_natCast, Nat.mul_one, Bool.or_false, Bool.false_or, Bool.or_self, Bool.or_true]); exact call_fn (fn_rotr GK R.e 11 (by decide) (by decide)) fun _ => ⟨rfl, rfl⟩) ?_⟩
      (simp -dsimp only [↓z_put, Nat.reduceLT, ↓z_drwK, ↓z_drw_binOp, ↓z_drwS, ↓z_grd_none, ↓z_withE, ↓z_rd_tmp, ↓lkW_cons, Nat.reduceEqDiff, ↓reduceIte, ↓z_rd_nil, ↓z_ap_cons, ↓z_ap_nil, ↓z_or_binOp, ↓z_binOp, ↓evW_tmp, ↓z_bn_xor, u32_xor, hR, and_true, ↓z_exD_all, ↓z_exD_eq, ↓z_drw_indexAddr, ↓z_rd_const, ↓z_or_indexAddr, ↓z_indexAddr, ↓evW_const, ↓constW_int, inR_i64, Int.reduceNeg, Int.reduceLE, and_self, ↓y_ty99, ↓z_elTy_arr, ↓y_sz98, ↓z_ix_ptr, Int.reduceToNat, Nat.mul_one, Nat.zero_add, true_and, ↓z_exD_and, ↓z_drw_load, ↓z_or_load, ↓z_load, ↓y_ty98, ↓z_agTy_int, ↓loadW_ptr, ↓lkoW_cons, ↓z_rd_f, ↓nthW_cons, reduceCtorEq, Nat.reduceSub, ↓z_drw_callv, ↓z_rd_func]); (try simp only [Int.toNat_natCast, Nat.mul_one, Bool.or_false, Bool.false_or, Bool.or_self, Bool.or_true])
      refine ⟨by omega, ex_mk (.int .u32 ((rr R.e 25 : Nat) : Int)) (fun E => by (simp -dsimp only [↓z_ap_cons, ↓z_ap_nil, ↓z_callv, ↓evW_func, ↓z_evL_cons, ↓evW_tmp, ↓lkW_cons, ↓reduceIte, ↓evW_const, ↓constW_int, inR_i64, Int.reduceNeg, Int.reduceLE, and_self, ↓z_evL_nil, ↓z_fun0, ↓z_coeL_cons, ↓z_coe_int, ↓z_coeL_nil, true_and]); (try simp only [Int.toNat_natCast, Nat.mul_one, Bool.or_false, Bool.false_or, Bool.or_self, Bool.or_true]); exact call_fn (fn_rotr GK R.e 25 (by decide) (by decide)) fun _ => ⟨rfl, rfl⟩) ?_⟩
      (simp -dsimp only [↓z_put, Nat.reduceLT, ↓z_drwK, ↓z_drw_binOp, ↓z_drwS, ↓z_grd_none, ↓z_withE, ↓z_rd_tmp, ↓lkW_cons, Nat.reduceEqDiff, ↓reduceIte, ↓z_rd_nil, ↓z_ap_cons, ↓z_ap_nil, ↓z_or_binOp, ↓z_binOp, ↓evW_tmp, ↓z_bn_xor, u32_xor, hR, and_true, ↓z_exD_all, ↓z_exD_eq, ↓z_bn_add, ↓wrW_u32, u32_add, ↓z_drw_indexAddr, ↓z_rd_const, ↓z_or_indexAddr, ↓z_indexAddr, ↓evW_const, ↓constW_int, inR_i64, Int.reduceNeg, Int.reduceLE, and_self, ↓y_ty99, ↓z_elTy_arr, ↓y_sz98, ↓z_ix_ptr, Int.reduceToNat, Nat.mul_one, Nat.zero_add, true_and, ↓z_exD_and, ↓z_drw_load, ↓z_or_load, ↓z_load, ↓y_ty98, ↓z_agTy_int, ↓loadW_ptr, ↓lkoW_cons, ↓z_rd_f, ↓nthW_cons, reduceCtorEq, Nat.reduceSub, ↓z_bn_and, u32_and, inR_u32, u32_notr, ↓z_drw_move, ↓z_or_move, ↓z_move, ↓z_rd_global, ↓evW_global, ↓glW_cons, ↓y_ty121, ↓z_ix_rop, ktC, ↓loadW_rop, ↓z_nth_int, kt_at, ↓z_exD_ex, sch_at, hz, ↓z_drw_assign, ↓z_or_assign, ↓z_assign, ↓z_drw_nil, ↓z_seq_nrm, ↓z_seq, ↓z_region_d, ↓y_mix]); (try simp only [Int.toNat_natCast])
      refine ⟨by omega, by omega, by omega, by omega, by omega, by omega, by omega, by omega, by omega, by omega, rgn_d (by decide +kernel) ?_⟩
      (simp -dsimp only [↓z_drw_indexAddr, ↓z_drwS, ↓z_grd_none, ↓z_withE, ↓z_rd_tmp, ↓lkW_cons, Nat.reduceEqDiff, ↓reduceIte, ↓z_rd_const, ↓z_rd_nil, ↓z_ap_cons, ↓z_ap_nil, ↓z_or_indexAddr, ↓z_indexAddr, ↓evW_tmp, ↓evW_const, ↓constW_int, inR_i64, Int.reduceNeg, Int.reduceLE, and_self, ↓y_ty99, ↓z_elTy_arr, ↓y_sz98, ↓z_ix_ptr, Int.reduceToNat, Nat.mul_one, Nat.zero_add, hR, and_true, true_and, ↓z_exD_all, ↓z_exD_and, ↓z_exD_eq, ↓z_put, Nat.reduceLT, ↓z_drwK, ↓z_drw_load, ↓z_or_load, ↓z_load, ↓y_ty98, ↓z_agTy_int, ↓loadW_ptr, ↓lkoW_cons, ↓z_rd_f, ↓nthW_cons, ↓z_drw_callv, ↓z_rd_func]); (try simp only [Int.toNat_natCast, Nat.mul_one, Bool.or_false, Bool.false_or, Bool.or_self, Bool.or_true])
      refine ⟨by omega, ex_mk (.int .u32 ((rr R.a 2 : Nat) : Int)) (fun E => by (simp -dsimp only [↓z_ap_cons, ↓z_ap_nil, ↓z_callv, ↓evW_func, ↓z_evL_cons, ↓evW_tmp, ↓lkW_cons, ↓reduceIte, ↓evW_const, ↓constW_int, inR_i64, Int.reduceNeg, Int.reduceLE, and_self, ↓z_evL_nil, ↓z_fun0, ↓z_coeL_cons, ↓z_coe_int, ↓z_coeL_nil, true_and]); (try simp only [Int.toNat_natCast, Nat.mul_one, Bool.or_false, Bool.false_or, Bool.or_self, Bool.or_true]); exact call_fn (fn_rotr GK R.a 2 (by decide) (by decide)) fun _ => ⟨rfl, rfl⟩) ?_⟩
      (simp -dsimp only [↓z_put, Nat.reduceLT, ↓z_drwK, ↓z_drw_indexAddr, ↓z_drwS, ↓z_grd_none, ↓z_withE, ↓z_rd_tmp, ↓lkW_cons, Nat.reduceEqDiff, ↓reduceIte, ↓z_rd_const, ↓z_rd_nil, ↓z_ap_cons, ↓z_ap_nil, ↓z_or_indexAddr, ↓z_indexAddr, ↓evW_tmp, ↓evW_const, ↓constW_int, inR_i64, Int.reduceNeg, Int.reduceLE, and_self, ↓y_ty99, ↓z_elTy_arr, ↓y_sz98, ↓z_ix_ptr, Int.reduceToNat, Nat.mul_one, Nat.zero_add, hR, and_true, true_and, ↓z_exD_all, ↓z_exD_and, ↓z_exD_eq, ↓z_drw_load, ↓z_or_load, ↓z_load, ↓y_ty98, ↓z_agTy_int, ↓loadW_ptr, ↓lkoW_cons, ↓z_rd_f, ↓nthW_cons, ↓z_drw_callv, ↓z_rd_func]); (try simp only [Int.toNat_natCast, Nat.mul_one, Bool.or_false, Bool.false_or, Bool.or_self, Bool.or_true])
      refine ⟨by omega, ex_mk (.int .u32 ((rr R.a 13 : Nat) : Int)) (fun E => by (simp -dsimp only [↓z_ap_cons, ↓z_ap_nil, ↓z_callv, ↓evW_func, ↓z_evL_cons, ↓evW_tmp, ↓lkW_cons, ↓reduceIte, ↓evW_const, ↓constW_int, inR_i64, Int.reduceNeg, Int.reduceLE, and_self, ↓z_evL_nil, ↓z_fun0, ↓z_coeL_cons, ↓z_coe_int, ↓z_coeL_nil, true_and]); (try simp only [Int.toNat_natCast, Nat.mul_one, Bool.or_false, Bool.false_or, Bool.or_self, Bool.or_true]); exact call_fn (fn_rotr GK R.a 13 (by decide) (by decide)) fun _ => ⟨rfl, rfl⟩) ?_⟩
      (simp -dsimp only [↓z_put, Nat.reduceLT, ↓z_drwK, ↓z_drw_binOp, ↓z_drwS, ↓z_grd_none, ↓z_withE, ↓z_rd_tmp, ↓lkW_cons, Nat.reduceEqDiff, ↓reduceIte, ↓z_rd_nil, ↓z_ap_cons, ↓z_ap_nil, ↓z_or_binOp, ↓z_binOp, ↓evW_tmp, ↓z_bn_xor, u32_xor, hR, and_true, ↓z_exD_all, ↓z_exD_eq, ↓z_drw_indexAddr, ↓z_rd_const, ↓z_or_indexAddr, ↓z_indexAddr, ↓evW_const, ↓constW_int, inR_i64, Int.reduceNeg, Int.reduceLE, and_self, ↓y_ty99, ↓z_elTy_arr, ↓y_sz98, ↓z_ix_ptr, Int.reduceToNat, Nat.mul_one, Nat.zero_add, true_and, ↓z_exD_and, ↓z_drw_load, ↓z_or_load, ↓z_load, ↓y_ty98, ↓z_agTy_int, ↓loadW_ptr, ↓lkoW_cons, ↓z_rd_f, ↓nthW_cons, ↓z_drw_callv, ↓z_rd_func]); (try simp only [Int.toNat_natCast, Nat.mul_one, Bool.or_false, Bool.false_or, Bool.or_self, Bool.or_true])
      refine ⟨by omega, ex_mk (.int .u32 ((rr R.a 22 : Nat) : Int)) (fun E => by (simp -dsimp only [↓z_ap_cons, ↓z_ap_nil, ↓z_callv, ↓evW_func, ↓z_evL_cons, ↓evW_tmp, ↓lkW_cons, ↓reduceIte, ↓evW_const, ↓constW_int, inR_i64, Int.reduceNeg, Int.reduceLE, and_self, ↓z_evL_nil, ↓z_fun0, ↓z_coeL_cons, ↓z_coe_int, ↓z_coeL_nil, true_and]); (try simp only [Int.toNat_natCast, Nat.mul_one, Bool.or_false, Bool.false_or, Bool.or_self, Bool.or_true]); exact call_fn (fn_rotr GK R.a 22 (by decide) (by decide)) fun _ => ⟨rfl, rfl⟩) ?_⟩
      (simp -dsimp only [↓z_put, Nat.reduceLT, ↓z_drwK, ↓z_drw_binOp, ↓z_drwS, ↓z_grd_none, ↓z_withE, ↓z_rd_tmp, ↓lkW_cons, Nat.reduceEqDiff, ↓reduceIte, ↓z_rd_nil, ↓z_ap_cons, ↓z_ap_nil, ↓z_or_binOp, ↓z_binOp, ↓evW_tmp, ↓z_bn_xor, u32_xor, hR, and_true, ↓z_exD_all, ↓z_exD_eq, ↓z_drw_indexAddr, ↓z_rd_const, ↓z_or_indexAddr, ↓z_indexAddr, ↓evW_const, ↓constW_int, inR_i64, Int.reduceNeg, Int.reduceLE, and_self, ↓y_ty99, ↓z_elTy_arr, ↓y_sz98, ↓z_ix_ptr, Int.reduceToNat, Nat.mul_one, Nat.zero_add, true_and, ↓z_exD_and, ↓z_drw_load, ↓z_or_load, ↓z_load, ↓y_ty98, ↓z_agTy_int, ↓loadW_ptr, ↓lkoW_cons, ↓z_rd_f, ↓nthW_cons, reduceCtorEq, Nat.reduceSub, ↓z_bn_and, u32_and, ↓z_bn_add, ↓wrW_u32, u32_add, ↓z_drw_assign, ↓z_or_assign, ↓z_assign, ↓z_drw_nil, ↓z_seq_nrm, ↓z_region, ↓z_ops_plain, ↓z_move, ↓z_build, ↓z_blTy_arr, ↓y_zr99, ↓z_bld_cons, ↓z_cl_int, List.length_cons, List.length_nil, Nat.reduceAdd, Nat.reduceLeDiff, ↓spsW_cons, ↓drW_cons, ↓catW_cons, ↓catW_nil, ↓drW_nil, ↓z_cat_nil_r, ↓z_bld_nil, ↓z_store, ↓y_sz99, ↓z_cl_oag, ↓z_store_ptr, ↓z_so_cons, ↓z_put_none, ↓z_ops_nil, ↓z_blk_nrm, ↓wrW_i64, ↓z_lp_nrm, ↓z_wk, ↓z_wkE_cons, D.int.injEq, ↓z_wkE_nil, ↓z_wkO_cons, List.cons.injEq, ↓z_wkO_nil]); (try simp only [Int.toNat_natCast, Nat.mul_one, Bool.or_false, Bool.false_or, Bool.or_self, Bool.or_true])
      have hs : rnds S (sch C 64) (t + 1) = rnd R (kt.getD t 0) ((sch C 64).getD t 0) := by rw [rnds, hR]
      refine ⟨by omega, by omega, by omega, by omega, by omega, by omega, by omega, by omega, by omega, by omega, by omega, by omega, by omega, by omega, t + 1, by omega, by omega, by omega, ?_⟩
      rw [hs]
      exact ⟨rfl, rfl, rfl, rfl, rfl, rfl, rfl, rfl⟩
    · have ht64 : t = 64 := by omega
      subst ht64
      have hl := fun i => show (wI (adF S R i)).length = 8 from rfl
      have hl2 : (wI (s8L R)).length = 8 := rfl
      refine hold_intro ⟨[], Nat, fun i => ⟨148, 4, [(11, .int .i64 i), (7, .ptr 3 0), (5, .int .i64 ((64 * k : Nat) : Int)), (4, .sl 1 M.length (M.map bD)), (3, .ptr 1 0), (2, .ptr 0 0)],
        [(3, (wI (s8L R)).map (D.int .u32)), (1, (wI (adF S R i)).map (D.int .u32)), (0, (List.replicate 32 (0 : UInt8)).map bD)]⟩, fun i => i ≤ 8, fun i => 8 - i, ?_, ?_⟩
      · (simp -dsimp only [↓z_ad_nil, ↓z_wk, ↓z_wkE_cons, ↓lkW_cons, ↓reduceIte, D.int.injEq, true_and, Nat.reduceEqDiff, ↓z_wkE_nil, and_self, and_true, ↓z_wkO_cons, ↓lkoW_cons, hR, reduceCtorEq, ↓z_wkO_nil]); (try simp only [Int.toNat_natCast, Nat.mul_one, Bool.or_false, Bool.false_or, Bool.or_self, Bool.or_true])
        exact ⟨0, by omega, rfl, rfl, rfl⟩
      rintro i hi
      (simp -dsimp only [↓z_seq, ↓z_region, ↓z_ops_plain, ↓z_move, ↓evW_tmp, ↓lkW_cons, ↓reduceIte, ↓z_put, Nat.reduceLT, ↓z_binOp, ↓evW_const, ↓constW_int, inR_i64, Int.reduceNeg, Int.reduceLE, and_self, ↓z_bn_lss, ↓z_ops_nil, ↓z_seq_nrm, ↓z_cond, ↓z_cnd, ↓z_gdt, ↓z_skip, ↓z_block, ↓z_region_d, ↓y_mix, true_and, ↓z_exit, ↓z_seq_ext, ↓z_lp_ext, ↓z_blk_ext, ↓z_blk_nrm, Nat.reduceEqDiff, ↓z_bn_add, ↓wrW_i64, ↓z_assign, ↓z_lp_nrm, ↓z_wk, ↓z_wkE_cons, D.int.injEq, ↓z_wkE_nil, and_true, ↓z_wkO_cons, ↓lkoW_cons, reduceCtorEq, ↓z_wkO_nil, z_ite]); (try simp only [Int.toNat_natCast, Nat.mul_one, Bool.or_false, Bool.false_or, Bool.or_self, Bool.or_true])
      refine ⟨fun hi8 => rgn_d (by decide +kernel) ?_, fun hi8 => ?_⟩
      · (simp -dsimp only [↓z_drw_move, ↓z_drwS, ↓z_grd_none, ↓z_withE, ↓z_rd_tmp, ↓lkW_cons, Nat.reduceEqDiff, ↓reduceIte, ↓z_rd_nil, ↓z_ap_cons, ↓z_ap_nil, ↓z_or_move, ↓z_move, ↓evW_tmp, and_true, ↓z_exD_all, ↓z_exD_eq, ↓z_put, Nat.reduceLT, ↓z_drwK, ↓z_drw_indexAddr, ↓z_or_indexAddr, ↓z_indexAddr, ↓y_ty99, ↓z_elTy_arr, ↓y_sz98, ↓z_ix_ptr, Nat.mul_one, Nat.zero_add, ↓z_exD_and, ↓z_drw_load, ↓z_or_load, ↓z_load, ↓y_ty98, ↓z_agTy_int, ↓loadW_ptr, ↓lkoW_cons, ↓z_rd_f, ↓z_nth_int, hl, ↓z_exD_ex, hl2, ↓z_drw_binOp, ↓z_or_binOp, ↓z_binOp, ↓z_bn_add, ↓wrW_u32, ↓z_drw_store, ↓z_ops_plain, ↓z_store, ↓z_cl_int, List.length_cons, List.length_nil, ↓z_store_ptr, List.length_map, Nat.reduceLeDiff, ↓z_sps_int, ↓z_so_cons, ↓z_put_none, ↓z_ops_nil, ↓z_blk_nrm, ↓z_seq_nrm, ↓z_region, ↓evW_const, ↓constW_int, inR_i64, Int.reduceNeg, Int.reduceLE, and_self, ↓wrW_i64, ↓z_assign, ↓z_lp_nrm, ↓z_wk, ↓z_wkE_cons, D.int.injEq, true_and, ↓z_wkE_nil, ↓z_wkO_cons, reduceCtorEq, ↓z_wkO_nil]); (try simp only [Int.toNat_natCast])
        refine ⟨by omega, by omega, by omega, by omega, by omega, by omega, by omega, by omega, by omega, by omega, i + 1, by omega, by omega, by omega, ?_⟩
        rcases (by omega : i = 0 ∨ i = 1 ∨ i = 2 ∨ i = 3 ∨ i = 4 ∨ i = 5 ∨ i = 6 ∨ i = 7) with rfl | rfl | rfl | rfl | rfl | rfl | rfl | rfl
        all_goals simp [wI, adF, s8L, u32_add]
      · have hi : i = 8 := by omega
        subst hi
        have hc : cmp8 S C = s8add S R := by unfold cmp8; rw [hR]
        refine ⟨by omega, k + 1, by omega, by omega, by omega, ?_⟩
        rw [hB, hc]; rfl
  · have hke : M.length / 64 = k := by omega
    (simp -dsimp only [↓z_seq, ↓z_region, ↓z_ops_plain, ↓z_move, ↓evW_tmp, ↓lkW_cons, ↓reduceIte, ↓z_put, Nat.reduceLT, Nat.reduceEqDiff, ↓z_callb, ↓z_evL_cons, ↓z_evL_nil, ↓z_len, ↓y_ty27, ↓z_ln_sl, ↓z_binOp, ↓z_bn_lss, ↓z_ops_nil, ↓z_seq_nrm, ↓z_cond, ↓z_cnd, ↓z_gdt, ↓z_skip, ↓z_block, ↓evW_const, ↓constW_int, inR_i64, Int.reduceNeg, Int.reduceLE, and_self, ↓z_bn_add, ↓wrW_i64, ↓z_slice, ↓z_evO_some, ↓z_bo_some, ↓z_evO_none, ↓z_bo_none, ↓z_seTy_sl, ↓y_sz5, ↓z_slc_sl_lh, ↓z_sub_map, ↓z_callv, ↓evW_func, ↓z_fun0, ↓z_coeL_cons, ↓z_coe_sl, ↓z_coeL_nil, true_and, ↓z_exit, ↓z_seq_ext, ↓z_lp_ext, ↓z_blk_ext, ↓z_alloc, ↓y_zr107, ↓z_new, ↓z_nm_cons, ↓z_nmC_bytes, ↓z_nm_nil, ↓z_pg_cons, ↓z_mn_bool, ↓z_mn_int, ↓z_mn_sl, ↓z_mn_ptr, reduceCtorEq, ↓z_pg_nil, ↓z_assign, ↓z_loop, z_ite]); (try simp only [Int.toNat_natCast])
    refine ⟨fun h => absurd h (by omega), fun _ => ?_⟩
    have lz : (List.replicate 32 (0 : UInt8)).length = 32 := by decide
    have n2 : nmC 2 (s8C (blkS M k)) := by unfold s8C; (simp -dsimp only [↓z_nmC_cons, ↓z_mn'_int, ↓z_nmC_nil, and_self]); (try simp only [Int.toNat_natCast, Nat.mul_one, Bool.or_false, Bool.false_or, Bool.or_self, Bool.or_true])
    rw [hS] at n2 ⊢
    refine ⟨n2, hold_intro ⟨[], Nat, fun i => ⟨148, 3, [(13, .int .i64 i), (12, .ptr 2 0), (3, .ptr 1 0), (2, .ptr 0 0)], [(2, (outK S i).map bD), (1, s8C S), (0, (List.replicate 32 (0 : UInt8)).map bD)]⟩, fun i => i ≤ 32, fun i => 32 - i, ?_, ?_⟩⟩
    · (simp -dsimp only [↓z_ad_nil, ↓z_wk, ↓z_wkE_cons, ↓lkW_cons, ↓reduceIte, D.int.injEq, true_and, Nat.reduceEqDiff, ↓z_wkE_nil, and_self, and_true, ↓z_wkO_cons, ↓lkoW_cons, reduceCtorEq, ↓z_wkO_nil]); (try simp only [Int.toNat_natCast, Nat.mul_one, Bool.or_false, Bool.false_or, Bool.or_self, Bool.or_true])
      exact ⟨0, by omega, rfl, rfl⟩
    rintro i hi
    have lo := outK_len (s := S) hi
    by_cases h32 : i < 32
    · have e4 : (i : Int).tdiv 4 = ((i / 4 : Nat) : Int) := by rw [Int.tdiv_eq_ediv_of_nonneg (by omega)]; omega
      have e5 : (24 : Int) - 8 * (i : Int).tmod 4 = ((24 - 8 * (i % 4) : Nat) : Int) := by rw [Int.tmod_eq_emod_of_nonneg (by omega)]; omega
      have tm : (i : Int).tmod 4 = ((i % 4 : Nat) : Int) := by rw [Int.tmod_eq_emod_of_nonneg (by omega)]; omega
      have qw := s8C_w S (i := i / 4) (by omega)
      have esh := u32_shr ((s8L S).getD (i / 4) 0) (24 - 8 * (i % 4)) (by omega)
      have eb : D.int .u8 (IntKind.u8.wrap ((sR ((s8L S).getD (i / 4) 0) (24 - 8 * (i % 4)) : Nat) : Int)) = bD (UInt8.ofNat ((s8L S).getD (i / 4) 0 >>> (24 - 8 * (i % 4)))) := bD_of _
      (simp -dsimp only [↓z_seq, ↓z_region, ↓z_ops_plain, ↓z_move, ↓evW_tmp, ↓lkW_cons, ↓reduceIte, ↓z_put, Nat.reduceLT, ↓z_binOp, ↓evW_const, ↓constW_int, inR_i64, Int.reduceNeg, Int.reduceLE, and_self, ↓z_bn_lss, ↓z_ops_nil, ↓z_seq_nrm, ↓z_cond, ↓z_cnd, ↓z_gdt, ↓z_skip, ↓z_block, Nat.reduceEqDiff, ↓z_bn_quo, ↓z_quo_i64, ne_eq, Int.reduceEq, not_false_eq_true, e4, ↓z_indexAddr, ↓y_ty99, ↓z_elTy_arr, ↓y_sz98, ↓z_ix_ptr, ↓z_load, ↓y_ty98, ↓z_agTy_int, ↓loadW_ptr, ↓lkoW_cons, ↓z_rd_f, Nat.mul_one, Nat.zero_add, ↓z_bn_rem, ↓z_rem_i64, ↓z_bn_mul, ↓wrW_i64, ↓z_bn_sub, e5, ↓z_convert, ↓y_ty5, ↓z_cvt_int, ↓y_ty107, ↓y_sz5, ↓z_store, ↓z_put_none, ↓z_blk_nrm, ↓z_assign, ↓z_lp_nrm, true_and, ↓z_exit, ↓z_seq_ext, ↓z_lp_ext, ↓z_blk_ext, ↓y_sz107, ↓z_agTy_arr, ↓z_rd_t, List.length_map, lo, Nat.reduceLeDiff, ↓z_sub_map, ↓z_cl_oag, List.length_take, List.length_drop, Nat.reduceSub, ↓z_store_ptr, reduceCtorEq, lz, ↓z_sps_map, ↓z_so_cons, ↓z_ret, ↓z_end_rt, resLW, res1W, ↓z_coeL_cons, ↓z_coeL_nil, ↓z_pack1, List.length_append, ↓z_coe_oag, ↓z_coeC_bytes, D.agg.injEq, z_ite]); (try simp only [Int.toNat_natCast])
      refine ⟨fun _ => ⟨by omega, by omega, by omega, ?_⟩, fun h => absurd h (by omega)⟩
      rw [qw]
      (simp -dsimp only [Int.reduceNeg, ↓z_bn_shr, ↓z_cv_int, ↓z_cvi_u32_u8, ↓z_put, Nat.reduceLT, ↓evW_tmp, ↓lkW_cons, Nat.reduceEqDiff, ↓reduceIte, ↓z_ix_ptr, ↓z_cl_int, esh, eb, List.length_cons, List.length_nil, Nat.zero_add, ↓z_store_ptr, ↓lkoW_cons, Nat.mul_one, List.length_map, lo, Nat.reduceLeDiff, ↓z_so_cons, ↓z_bn_add, ↓wrW_i64, inR_i64, ↓z_wk, ↓z_wkE_cons, D.int.injEq, true_and, ↓z_wkE_nil, and_self, and_true, ↓z_wkO_cons, reduceCtorEq, ↓z_wkO_nil, z_sps]); (try simp only [Int.toNat_natCast])
      rw [tm]
      refine ⟨by omega, by omega, by omega, by omega, by omega, by omega, by omega, i + 1, by omega, by omega, by omega, ?_⟩
      rw [← outK_s h32, List.map_append, List.map_append, List.map_take, List.map_drop]; rfl
    · have hi' : i = 32 := by omega
      subst hi'
      rw [outK_end] at lo
      (simp -dsimp only [↓z_seq, ↓z_region, ↓z_ops_plain, ↓z_move, ↓evW_tmp, ↓lkW_cons, ↓reduceIte, ↓z_put, Nat.reduceLT, ↓z_binOp, ↓evW_const, ↓constW_int, inR_i64, Int.reduceNeg, Int.reduceLE, and_self, ↓z_bn_lss, ↓z_ops_nil, ↓z_seq_nrm, ↓z_cond, ↓z_cnd, ↓z_gdt, ↓z_skip, ↓z_block, Nat.reduceEqDiff, ↓z_bn_quo, ↓z_quo_i64, ne_eq, Int.reduceEq, not_false_eq_true, ↓z_indexAddr, ↓y_ty99, ↓z_elTy_arr, ↓y_sz98, ↓z_ix_ptr, ↓z_load, ↓y_ty98, ↓z_agTy_int, ↓loadW_ptr, ↓lkoW_cons, ↓z_rd_f, Nat.mul_one, Nat.zero_add, ↓z_bn_rem, ↓z_rem_i64, ↓z_bn_mul, ↓wrW_i64, ↓z_bn_sub, ↓z_convert, ↓y_ty5, ↓z_cvt_int, outK_end, ↓y_ty107, ↓y_sz5, ↓z_store, ↓z_put_none, ↓z_blk_nrm, ↓z_assign, ↓z_lp_nrm, Nat.reduceSub, true_and, ↓z_exit, ↓z_seq_ext, ↓z_lp_ext, ↓z_blk_ext, ↓y_sz107, ↓z_agTy_arr, ↓z_rd_t, List.length_map, lo, Nat.reduceLeDiff, ↓z_sub_map, ↓z_cl_oag, List.length_take, List.length_drop, ↓z_store_ptr, reduceCtorEq, lz, ↓z_sps_map, ↓z_so_cons, ↓z_ret, ↓z_end_rt, resLW, res1W, ↓z_coeL_cons, ↓z_coeL_nil, ↓z_pack1, List.length_append, ↓z_coe_oag, ↓z_coeC_bytes, D.agg.injEq, z_ite]); (try simp only [Int.toNat_natCast, Nat.mul_one, Bool.or_false, Bool.false_or, Bool.or_self, Bool.or_true])
      refine ⟨fun h => absurd h (by decide), fun _ => ?_⟩
      have tk : List.take 32 (outB S) = outB S := List.take_of_length_le (by omega)
      rw [hsha, hke, hS]
      refine ⟨by decide, by decide, ?_⟩
      rw [List.drop_zero, List.take_zero, List.drop_zero, List.nil_append, tk, show List.drop 32 (List.replicate 32 (0 : UInt8)) = [] from rfl, List.append_nil, tk]
end Go.Abs
end
section
namespace Go.Abs
open Go.Proofs
theorem bD_take_s {h : List UInt8} {i : Nat} (hi : i < h.length) : (h.take i).map bD ++ [D.int .u8 h[i].toNat] = (h.take (i + 1)).map bD := by
  have e1 : h.take (i + 1) = h.take i ++ [h[i]] := by simp
  rw [e1, List.map_append]; rfl
/-- The first bytes of a hash, as they are copied. -/
def cpK (h : List UInt8) (i : Nat) : List UInt8 := h.take i ++ List.replicate (16 - i) 0
theorem cpK_len {h : List UInt8} {i : Nat} (hl : 16 ≤ h.length) (hi : i ≤ 16) : (cpK h i).length = 16 := by simp [cpK]; omega
theorem cpK_s {h : List UInt8} {i : Nat} (hl : 16 ≤ h.length) (hi : i < 16) : (cpK h i).take i ++ [h[i]] ++ (cpK h i).drop (i + 1) = cpK h (i + 1) := by
  have l : (h.take i).length = i := by rw [List.length_take]; omega
  unfold cpK
  rw [List.take_left' l, List.drop_append, List.drop_of_length_le (by omega), l, List.take_add_one, List.getElem?_eq_getElem (by omega)]
  simp [List.drop_replicate]
  omega
theorem cpK_end {h : List UInt8} : cpK h 16 = h.take 16 := by simp [cpK]
set_option maxRecDepth 100000 in
set_option maxHeartbeats 8000000 in
theorem fn_Bytes32 (G : Glob) (h : List UInt8) (hh : h.length = 32) : Fn G Tryd.prog 69 [.agg (h.map bD)] (.str h) := by
  refine Fn.mk (c := _) Tryd.func69 rfl rfl Tryd.ntmps69 Tryd.results69 ?_
  (simp -dsimp only [bodyW, List.length_cons, List.length_nil, Nat.zero_add, Nat.reduceLeDiff, wfL, ↓z_seq, ↓z_region, ↓z_ops_plain, ↓z_box, ↓evW_tmp, ↓z_lk_env, ↓reduceIte, ↓z_cl_agg, ↓z_nmC_bytes, ↓z_new, ↓z_nm_nil, Nat.reduceLT, ↓z_pg_env, ↓z_mn_agg, ↓z_pg_env0, ↓z_put, ↓z_assign, ↓evW_const, ↓constW_string, maxLen_lit, ↓z_ops_nil, ↓z_seq_nrm, ↓constW_nils, ↓constW_int, inR_i64, Int.reduceNeg, Int.reduceLE, and_self, ↓z_block, ↓z_loop, true_and])
  intro _
  refine hold_intro ⟨[(3, 1)], Nat, fun i => ⟨17, 2, [(4, .int .i64 i), (3, .osl 1 1 i), (1, .ptr 0 0)], [(1, (h.take i).map bD), (0, h.map bD)]⟩, fun i => i ≤ 32, fun i => 32 - i, ?_, ?_⟩
  · (simp -dsimp only [↓z_ad_cons, Nat.reduceLT, ↓lkW_cons, Nat.reduceEqDiff, ↓reduceIte, ↓z_nm_cons, ↓z_nmC_bytes, ↓z_nm_nil, Nat.zero_add, ↓z_pg_cons, ↓z_mn_int, ↓z_mn_nils, ↓z_mn_str, ↓z_mn_ptr, reduceCtorEq, ↓z_mn_agg, ↓z_pg_nil, ↓z_ad_nil, ↓z_wk, ↓z_wkE_cons, D.int.injEq, true_and, D.osl.injEq, ↓z_wkE_nil, and_self, and_true, ↓z_wkO_cons, ↓lkoW_cons, ↓z_wkO_nil]); (try simp only [Int.toNat_natCast, Nat.mul_one, Bool.or_false, Bool.false_or, Bool.or_self, Bool.or_true])
    exact ⟨0, by omega, ⟨rfl, rfl⟩, rfl⟩
  rintro i hi
  have ht : (h.take i).length = i := by rw [List.length_take]; omega
  (simp -dsimp only [↓z_seq, ↓z_region, ↓z_ops_plain, ↓z_move, ↓evW_tmp, ↓lkW_cons, ↓reduceIte, ↓z_put, Nat.reduceLT, ↓z_binOp, ↓evW_const, ↓constW_int, inR_i64, Int.reduceNeg, Int.reduceLE, and_self, ↓z_bn_lss, ↓z_ops_nil, ↓z_seq_nrm, ↓z_cond, ↓z_cnd, ↓z_gdt, ↓z_skip, ↓z_block, Nat.reduceEqDiff, ↓z_indexAddr, ↓y_ty107, ↓z_elTy_arr, ↓y_sz5, ↓z_ix_ptr, ↓z_load, ↓y_ty5, ↓z_agTy_int, ↓loadW_ptr, ↓lkoW_cons, reduceCtorEq, ↓z_rd_f, ↓z_nth_bytes, ↓z_buildSlice, ↓y_ty27, ↓z_slTy, Nat.mul_one, Nat.reduceLeDiff, maxLen_lit, ↓y_zr5, List.length_cons, List.length_nil, Nat.zero_add, ↓z_repL_s, ↓z_repL_0, ↓z_cat_nil_r, ↓z_bld_cons, ↓z_cl_int, ↓spsW_cons, ↓drW_cons, ↓drW_nil, ↓z_bld_nil, ↓z_allP_cons, ↓z_isP_int, ↓z_allP_nil, ↓z_callb, ↓z_evL_cons, ↓z_evL_nil, ↓z_append, ↓z_nint_sl, ↓y_by5, ↓z_src_slx, ↓z_app_osl, List.length_map, ht, ↓z_nmC_bytes, ↓z_room, ↓z_pgo_cons, ↓z_pgc_nm, ↓z_pgo_nil, ↓z_pg_cons, ↓z_mn_slx, ↓z_mn_int, ↓z_mn_ptr, ↓z_mn_osl, ↓z_mn_bool, ↓z_pg_nil, ↓z_so_cons, ↓z_assign, ↓z_blk_nrm, ↓z_bn_add, ↓wrW_i64, ↓z_lp_nrm, ↓z_wk, ↓z_wkE_cons, D.int.injEq, true_and, D.osl.injEq, ↓z_wkE_nil, and_true, ↓z_wkO_cons, ↓z_wkO_nil, hh, ↓z_exit, ↓z_seq_ext, ↓z_lp_ext, ↓z_blk_ext, ↓z_convert, ↓y_ty9, ↓z_cvt_bs, ↓z_u8, ↓z_cv_bs_osl, ↓z_src_osl, ↓z_allP_bytes, ↓bsW_map, ↓z_ret, ↓z_end_rt, resLW, res1W, ↓z_coeL_cons, ↓z_coeL_nil, ↓z_pack1, ↓z_coe_str, D.str.injEq, z_ite]); (try simp only [Int.toNat_natCast])
  refine ⟨fun hlt => ⟨by omega, by omega, by omega, by omega, by omega, by omega, i + 1, by omega, by omega, ⟨by omega, by omega⟩, bD_take_s (by omega)⟩, fun hge => List.take_of_length_le (by omega)⟩
set_option maxRecDepth 100000 in
set_option maxHeartbeats 8000000 in
theorem fn_Text (G : Glob) (h : List UInt8) (hh : h.length = 16) : Fn G Tryd.prog 47 [.agg (h.map bD)] (.str h) := by
  refine Fn.mk (c := _) Tryd.func47 rfl rfl Tryd.ntmps47 Tryd.results47 ?_
  (simp -dsimp only [bodyW, List.length_cons, List.length_nil, Nat.zero_add, Nat.reduceLeDiff, wfL, ↓z_seq, ↓z_region, ↓z_ops_plain, ↓z_box, ↓evW_tmp, ↓z_lk_env, ↓reduceIte, ↓z_cl_agg, ↓z_nmC_bytes, ↓z_new, ↓z_nm_nil, Nat.reduceLT, ↓z_pg_env, ↓z_mn_agg, ↓z_pg_env0, ↓z_put, ↓z_assign, ↓evW_const, ↓constW_string, maxLen_lit, ↓z_ops_nil, ↓z_seq_nrm, ↓constW_nils, ↓constW_int, inR_i64, Int.reduceNeg, Int.reduceLE, and_self, ↓z_block, ↓z_loop, true_and])
  intro _
  refine hold_intro ⟨[(3, 1)], Nat, fun i => ⟨17, 2, [(4, .int .i64 i), (3, .osl 1 1 i), (1, .ptr 0 0)], [(1, (h.take i).map bD), (0, h.map bD)]⟩, fun i => i ≤ 16, fun i => 16 - i, ?_, ?_⟩
  · (simp -dsimp only [↓z_ad_cons, Nat.reduceLT, ↓lkW_cons, Nat.reduceEqDiff, ↓reduceIte, ↓z_nm_cons, ↓z_nmC_bytes, ↓z_nm_nil, Nat.zero_add, ↓z_pg_cons, ↓z_mn_int, ↓z_mn_nils, ↓z_mn_str, ↓z_mn_ptr, reduceCtorEq, ↓z_mn_agg, ↓z_pg_nil, ↓z_ad_nil, ↓z_wk, ↓z_wkE_cons, D.int.injEq, true_and, D.osl.injEq, ↓z_wkE_nil, and_self, and_true, ↓z_wkO_cons, ↓lkoW_cons, ↓z_wkO_nil]); (try simp only [Int.toNat_natCast, Nat.mul_one, Bool.or_false, Bool.false_or, Bool.or_self, Bool.or_true])
    exact ⟨0, by omega, ⟨rfl, rfl⟩, rfl⟩
  rintro i hi
  have ht : (h.take i).length = i := by rw [List.length_take]; omega
  (simp -dsimp only [↓z_seq, ↓z_region, ↓z_ops_plain, ↓z_move, ↓evW_tmp, ↓lkW_cons, ↓reduceIte, ↓z_put, Nat.reduceLT, ↓z_binOp, ↓evW_const, ↓constW_int, inR_i64, Int.reduceNeg, Int.reduceLE, and_self, ↓z_bn_lss, ↓z_ops_nil, ↓z_seq_nrm, ↓z_cond, ↓z_cnd, ↓z_gdt, ↓z_skip, ↓z_block, Nat.reduceEqDiff, ↓z_indexAddr, ↓y_ty39, ↓z_elTy_arr, ↓y_sz5, ↓z_ix_ptr, ↓z_load, ↓y_ty5, ↓z_agTy_int, ↓loadW_ptr, ↓lkoW_cons, reduceCtorEq, ↓z_rd_f, ↓z_nth_bytes, ↓z_buildSlice, ↓y_ty27, ↓z_slTy, Nat.mul_one, Nat.reduceLeDiff, maxLen_lit, ↓y_zr5, List.length_cons, List.length_nil, Nat.zero_add, ↓z_repL_s, ↓z_repL_0, ↓z_cat_nil_r, ↓z_bld_cons, ↓z_cl_int, ↓spsW_cons, ↓drW_cons, ↓drW_nil, ↓z_bld_nil, ↓z_allP_cons, ↓z_isP_int, ↓z_allP_nil, ↓z_callb, ↓z_evL_cons, ↓z_evL_nil, ↓z_append, ↓z_nint_sl, ↓y_by5, ↓z_src_slx, ↓z_app_osl, List.length_map, ht, ↓z_nmC_bytes, ↓z_room, ↓z_pgo_cons, ↓z_pgc_nm, ↓z_pgo_nil, ↓z_pg_cons, ↓z_mn_slx, ↓z_mn_int, ↓z_mn_ptr, ↓z_mn_osl, ↓z_mn_bool, ↓z_pg_nil, ↓z_so_cons, ↓z_assign, ↓z_blk_nrm, ↓z_bn_add, ↓wrW_i64, ↓z_lp_nrm, ↓z_wk, ↓z_wkE_cons, D.int.injEq, true_and, D.osl.injEq, ↓z_wkE_nil, and_true, ↓z_wkO_cons, ↓z_wkO_nil, hh, ↓z_exit, ↓z_seq_ext, ↓z_lp_ext, ↓z_blk_ext, ↓z_convert, ↓y_ty9, ↓z_cvt_bs, ↓z_u8, ↓z_cv_bs_osl, ↓z_src_osl, ↓z_allP_bytes, ↓bsW_map, ↓z_ret, ↓z_end_rt, resLW, res1W, ↓z_coeL_cons, ↓z_coeL_nil, ↓z_pack1, ↓z_coe_str, D.str.injEq, z_ite]); (try simp only [Int.toNat_natCast])
  refine ⟨fun hlt => ⟨by omega, by omega, by omega, by omega, by omega, by omega, i + 1, by omega, by omega, ⟨by omega, by omega⟩, bD_take_s (by omega)⟩, fun hge => List.take_of_length_le (by omega)⟩
set_option maxRecDepth 100000 in
set_option maxHeartbeats 8000000 in
theorem fn_Short (b : List UInt8) (hb : b.length ≤ 10000000000) : Fn GK Tryd.prog 61 [.sl 1 b.length (b.map bD)] (.agg (((sha b).take 16).map bD)) := by
  refine Fn.mk (c := _) Tryd.func61 rfl rfl Tryd.ntmps61 Tryd.results61 ?_
  (simp -dsimp only [bodyW, List.length_cons, List.length_nil, Nat.zero_add, Nat.reduceLeDiff, wfL, ↓z_seq, ↓z_region, ↓z_ops_plain, ↓z_alloc, ↓y_zr39, ↓z_new, ↓z_nm_nil, Nat.reduceLT, ↓z_pg_env, ↓z_mn_sl, ↓z_pg_env0, ↓z_put, ↓z_ops_nil, ↓z_seq_nrm, ↓z_move, ↓evW_tmp, ↓lkW_cons, reduceCtorEq, ↓reduceIte, ↓z_callv, ↓evW_func, ↓z_evL_cons, ↓z_evL_nil, ↓z_fun0, ↓z_coeL_cons, ↓z_coe_sl, ↓z_coeL_nil, true_and])
  intro _
  refine call_fn (fn_rSum b hb) fun _ => ?_
  have ls := sha_len b
  generalize sha b = h at ls
  (simp -dsimp only [↓z_put, Nat.reduceLT, ↓z_ops_plain, ↓z_alloc, ↓y_zr107, ↓z_new, ↓z_nm_cons, ↓z_nmC_cons, ↓z_mn'_int, ↓z_nmC_nil, and_self, ↓z_nm_nil, Nat.zero_add, ↓z_pg_cons, ↓z_mn_agg, ↓z_mn_sl, ↓z_mn_ptr, reduceCtorEq, ↓reduceIte, ↓z_pg_nil, ↓z_store, ↓evW_tmp, ↓lkW_cons, Nat.reduceEqDiff, ↓y_sz107, ↓z_cl_agg, List.length_map, ls, ↓z_store_ptr, ↓lkoW_cons, List.length_cons, List.length_nil, Nat.reduceAdd, Nat.reduceLeDiff, ↓spsW_cons, ↓drW_cons, Nat.reduceSub, ↓drW_nil, ↓z_cat_nil_r, ↓z_so_cons, ↓z_put_none, ↓z_ops_nil, ↓z_seq_nrm, ↓z_seq, ↓z_region, ↓z_build, ↓y_ty39, ↓z_blTy_arr, ↓y_zr39, ↓y_sz5, ↓z_bld_nil, ↓z_nmC_bytes, ↓z_mn_oag, ↓z_mnL_int, ↓z_mnL_nil, ↓y_sz39, ↓z_cl_oag, ↓z_assign, ↓evW_const, ↓constW_int, inR_i64, Int.reduceNeg, Int.reduceLE, ↓z_block, ↓z_loop, true_and])
  refine hold_intro ⟨[], Nat, fun i => ⟨19, 3, [(5, .int .i64 i), (4, .ptr 2 0), (3, .ptr 1 0), (2, .ptr 0 0)], [(2, (cpK h i).map bD), (1, h.map bD), (0, (List.replicate 16 (0 : UInt8)).map bD)]⟩, fun i => i ≤ 16, fun i => 16 - i, ?_, ?_⟩
  · (simp -dsimp only [↓z_ad_nil, ↓z_wk, ↓z_wkE_cons, ↓lkW_cons, ↓reduceIte, D.int.injEq, true_and, Nat.reduceEqDiff, Nat.zero_add, Nat.reduceAdd, ↓z_wkE_nil, and_self, and_true, ↓z_wkO_cons, ↓lkoW_cons, reduceCtorEq, ↓z_wkO_nil]); (try simp only [Int.toNat_natCast, Nat.mul_one, Bool.or_false, Bool.false_or, Bool.or_self, Bool.or_true])
    exact ⟨0, by omega, rfl, by simp [cpK]; rfl, rfl⟩
  rintro i hi
  have lc := cpK_len (h := h) (i := i) (by omega) hi
  by_cases h16 : i < 16
  · (simp -dsimp only [↓z_seq, ↓z_region, ↓z_ops_plain, ↓z_move, ↓evW_tmp, ↓lkW_cons, ↓reduceIte, ↓z_put, Nat.reduceLT, ↓z_binOp, ↓evW_const, ↓constW_int, inR_i64, Int.reduceNeg, Int.reduceLE, and_self, ↓z_bn_lss, ↓z_ops_nil, ↓z_seq_nrm, ↓z_cond, ↓z_cnd, ↓z_gdt, ↓z_skip, ↓z_block, Nat.reduceEqDiff, ↓z_indexAddr, ↓y_ty107, ↓z_elTy_arr, ↓y_sz5, ↓z_ix_ptr, ↓z_load, ↓y_ty5, ↓z_agTy_int, ↓loadW_ptr, ↓lkoW_cons, ↓z_rd_f, ↓z_nth_bytes, ↓y_ty39, ↓z_store, ↓z_cl_int, Nat.mul_one, Nat.zero_add, List.length_cons, List.length_nil, ↓z_store_ptr, List.length_map, lc, Nat.reduceLeDiff, ↓z_sps_byte, ↓z_so_cons, ↓z_put_none, ↓z_blk_nrm, ↓z_bn_add, ↓wrW_i64, ↓z_assign, ↓z_lp_nrm, ↓z_wk, ↓z_wkE_cons, D.int.injEq, true_and, ↓z_wkE_nil, and_true, ↓z_wkO_cons, reduceCtorEq, ↓z_wkO_nil, ls, ↓z_exit, ↓z_seq_ext, ↓z_lp_ext, ↓z_blk_ext, ↓y_sz39, ↓z_agTy_arr, ↓z_rd_t, ↓z_sub_map, ↓z_cl_oag, List.length_take, List.length_drop, Nat.reduceSub, ↓z_sps_map, ↓z_ret, ↓z_end_rt, resLW, res1W, ↓z_coeL_cons, ↓z_coeL_nil, ↓z_pack1, List.length_append, ↓z_coe_oag, ↓z_coeC_bytes, D.agg.injEq, z_ite]); (try simp only [Int.toNat_natCast])
    refine ⟨fun _ => ⟨by omega, by omega, by omega, by omega, by omega, by omega, by omega, i + 1, by omega, by omega, by omega, ?_⟩, fun hh => absurd hh (by omega)⟩
    rw [← cpK_s (by omega) h16, List.map_append, List.map_append, List.map_take, List.map_drop]
  · have : i = 16 := by omega
    subst this
    (simp -dsimp only [↓z_seq, ↓z_region, ↓z_ops_plain, ↓z_move, ↓evW_tmp, ↓lkW_cons, ↓reduceIte, ↓z_put, Nat.reduceLT, ↓z_binOp, ↓evW_const, ↓constW_int, inR_i64, Int.reduceNeg, Int.reduceLE, and_self, ↓z_bn_lss, ↓z_ops_nil, ↓z_seq_nrm, ↓z_cond, ↓z_cnd, ↓z_gdt, ↓z_skip, ↓z_block, Nat.reduceEqDiff, ↓z_indexAddr, ↓y_ty107, ↓z_elTy_arr, ↓y_sz5, ↓z_ix_ptr, ↓z_load, ↓y_ty5, ↓z_agTy_int, ↓loadW_ptr, ↓lkoW_cons, ↓z_rd_f, ↓z_nth_bytes, ↓y_ty39, ↓z_store, ↓z_cl_int, Nat.mul_one, Nat.zero_add, List.length_cons, List.length_nil, ↓z_store_ptr, List.length_map, lc, Nat.reduceLeDiff, ↓z_sps_byte, ↓z_so_cons, ↓z_put_none, ↓z_blk_nrm, ↓z_bn_add, ↓wrW_i64, ↓z_assign, ↓z_lp_nrm, Nat.reduceSub, ↓z_wk, ↓z_wkE_cons, D.int.injEq, true_and, ↓z_wkE_nil, and_true, ↓z_wkO_cons, reduceCtorEq, ↓z_wkO_nil, ↓z_exit, ↓z_seq_ext, ↓z_lp_ext, ↓z_blk_ext, ↓y_sz39, ↓z_agTy_arr, ↓z_rd_t, ↓z_sub_map, ↓z_cl_oag, List.drop_zero, List.length_take, ↓z_sps_map, ↓z_ret, ↓z_end_rt, resLW, res1W, List.take_zero, List.nil_append, ↓z_coeL_cons, ↓z_coeL_nil, ↓z_pack1, List.length_append, List.length_drop, ↓z_coe_oag, ↓z_coeC_bytes, D.agg.injEq, z_ite]); (try simp only [Int.toNat_natCast])
    refine ⟨fun hh => absurd hh (by decide), fun _ => ⟨by decide, by decide, by decide, ?_⟩⟩
    have tk : List.take 16 (cpK h 16) = cpK h 16 := List.take_of_length_le (by omega)
    rw [tk, show List.drop 16 (List.replicate 16 (0 : UInt8)) = [] from rfl, List.append_nil, tk, cpK_end]
end Go.Abs
end
section
namespace Go.Abs
open Go.Proofs
def tagB (t : Int) : UInt8 := UInt8.ofNat (t % 256).toNat
theorem tagB_D (t : Int) : D.int .u8 (IntKind.u8.wrap t) = bD (tagB t) := by
  unfold bD tagB
  rw [IntKind.wrap_u8, UInt8.toNat_ofNat']
  congr 1; omega
theorem clW_bD (x : UInt8) (k : List D → Prop) : clW (bD x) k = k [bD x] := rfl
theorem nmR_bD (a : Nat) (x : UInt8) : nmR a (bD x) = True := eq_true (nmR_P rfl)
theorem isP_bD (x : UInt8) : (isP (bD x) = true) = True := eq_true rfl
theorem bs_1 (x : UInt8) (k : List UInt8 → Prop) : bsW [bD x] k = k [x] := bsW_map [x] k
def inpL (t : Int) (parts : List (List UInt8)) : List UInt8 := tagB t :: parts.flatMap encB
def ofD (t : Int) (parts : List (List UInt8)) : List UInt8 := (sha (inpL t parts)).take 16
theorem ofD_len (t : Int) (parts : List (List UInt8)) : (ofD t parts).length = 16 := by unfold ofD; rw [List.length_take, sha_len]; rfl
theorem fm_s {l : List (List UInt8)} {i : Nat} (h : i < l.length) : (l.take (i + 1)).flatMap encB = (l.take i).flatMap encB ++ encB l[i] := by
  have e1 : l.take (i + 1) = l.take i ++ [l[i]] := by simp
  rw [e1, List.flatMap_append]; simp
theorem fm_le (l : List (List UInt8)) (i : Nat) : ((l.take i).flatMap encB).length ≤ (l.flatMap encB).length := by
  have e : l.flatMap encB = (l.take i).flatMap encB ++ (l.drop i).flatMap encB := by rw [← List.flatMap_append, List.take_append_drop]
  rw [e, List.length_append]; omega
def inpI (parts : List (List UInt8)) (t : Int) : Nat → St
  | 0 => ⟨24, 0, [(6, .int .i64 0), (5, .slx 1 1 [bD (tagB t)]), (1, .sl 1 parts.length (parts.map D.str))], []⟩
  | i + 1 => ⟨24, 1, [(6, .int .i64 ((i + 1 : Nat) : Int)), (5, .osl 0 1 (1 + ((parts.take (i + 1)).flatMap encB).length)), (1, .sl 1 parts.length (parts.map D.str))], [(0, (tagB t :: (parts.take (i + 1)).flatMap encB).map bD)]⟩
theorem inpI0 {parts : List (List UInt8)} {t : Int} : inpI parts t 0 = ⟨24, 0, [(6, .int .i64 0), (5, .slx 1 1 [bD (tagB t)]), (1, .sl 1 parts.length (parts.map D.str))], []⟩ := rfl
theorem inpIs {parts : List (List UInt8)} {t : Int} {i : Nat} : inpI parts t (i + 1) = ⟨24, 1, [(6, .int .i64 ((i + 1 : Nat) : Int)), (5, .osl 0 1 (1 + ((parts.take (i + 1)).flatMap encB).length)), (1, .sl 1 parts.length (parts.map D.str))], [(0, (tagB t :: (parts.take (i + 1)).flatMap encB).map bD)]⟩ := rfl
set_option maxRecDepth 100000 in
set_option maxHeartbeats 8000000 in
theorem fn_Input1 (G : Glob) (t : Int) (parts : List (List UInt8)) (hp : ∀ x ∈ parts, x.length ≤ 1000000) (ht : (parts.flatMap encB).length ≤ 1000000000) (h0 : 0 < parts.length) :
    Fn G Tryd.prog 62 [.int .i64 t, .sl 1 parts.length (parts.map D.str)] (.sl 1 (inpL t parts).length ((inpL t parts).map bD)) := by
  refine Fn.mk (c := _) Tryd.func62 rfl rfl Tryd.ntmps62 Tryd.results62 ?_
  (simp -dsimp only [bodyW, List.length_cons, List.length_nil, Nat.zero_add, Nat.reduceAdd, Nat.reduceLeDiff, wfL, ↓z_seq, ↓z_region, ↓z_ops_plain, ↓z_assign, ↓evW_const, ↓constW_nils, ↓z_put, Nat.reduceLT, ↓z_ops_nil, ↓z_seq_nrm, ↓z_move, ↓evW_tmp, ↓lkW_cons, reduceCtorEq, ↓reduceIte, ↓z_lk_env, ↓z_convert, ↓y_ty3, ↓y_ty5, ↓z_cvt_int, ↓z_cv_int, ↓z_cvi_i64_u8, ↓z_buildSlice, ↓y_ty27, ↓z_slTy, ↓y_sz5, Nat.mul_one, maxLen_lit, ↓y_zr5, ↓z_repL_s, ↓z_repL_0, ↓z_cat_nil_r, ↓z_bld_cons, ↓z_cl_int, tagB_D, ↓spsW_cons, ↓drW_cons, ↓drW_nil, ↓z_bld_nil, ↓z_allP_cons, ↓z_isP_int, ↓z_allP_nil, and_self, ↓constW_int, inR_i64, Int.reduceNeg, Int.reduceLE, ↓z_block, ↓z_loop, true_and])
  intro _ hw
  have hw' : parts.length ≤ 9223372036854775807 := hw.1.1
  refine hold_intro ⟨[], Nat, inpI parts t, fun i => i ≤ parts.length, fun i => parts.length - i, ?_, ?_⟩
  · refine ⟨0, by omega, ?_⟩
    rw [inpI0]
    (simp -dsimp only [↓z_wk, ↓z_wkE_cons, ↓lkW_cons, ↓reduceIte, Nat.reduceEqDiff, tagB_D, ↓z_lk_env, reduceCtorEq, Nat.zero_add, ↓z_wkE_nil, and_self, ↓z_wkO_nil]); (try simp only [Int.toNat_natCast, Nat.mul_one, Bool.or_false, Bool.false_or, Bool.or_self, Bool.or_true])
  rintro i hi
  cases i with
  | zero =>
    rw [inpI0]
    (simp -dsimp only [↓z_seq, ↓z_region, ↓z_ops_plain, ↓z_move, ↓evW_tmp, ↓lkW_cons, ↓reduceIte, ↓z_put, Nat.reduceLT, Nat.reduceEqDiff, ↓z_callb, ↓z_evL_cons, ↓z_evL_nil, ↓z_len, ↓y_ty23, ↓z_ln_sl, ↓z_binOp, ↓z_bn_lss, ↓z_ops_nil, ↓z_seq_nrm, ↓z_cond, ↓z_cnd, ↓z_gdt, ↓z_skip, ↓z_block, ↓z_indexAddr, ↓z_elTy_sl, ↓y_sz9, ↓z_ix_sl, Int.reduceLE, ↓z_load, ↓y_ty9, ↓z_agTy_str, ↓loadW_rop, ↓z_rd_f, ↓z_nth_str, ↓z_callv, ↓evW_func, ↓z_fun0, ↓z_coeL_cons, ↓z_coe_str, ↓z_coeL_nil, true_and, Int.reduceToNat, Nat.mul_one, ↓z_exit, ↓z_seq_ext, ↓z_lp_ext, ↓z_blk_ext, ↓z_assign, ↓z_ret, ↓z_end_rt, resLW, res1W, ↓z_pack1, ↓z_coe_slx, reduceCtorEq, z_ite])
    have hx := hp _ (List.getElem_mem h0)
    have hs := fm_s h0
    have hle := fm_le parts (0 + 1)
    refine ⟨fun h => ⟨by omega, by omega, call_fn (fn_refBytes G parts[0] hx).fn fun _ => ?_⟩, fun h => absurd h0 (by omega)⟩
    (simp -dsimp only [↓z_put, Nat.reduceLT, ↓z_ops_plain, ↓z_callb, ↓z_evL_cons, ↓evW_tmp, ↓lkW_cons, Nat.reduceEqDiff, ↓reduceIte, ↓z_evL_nil, ↓z_append, ↓y_ty27, ↓z_slTy, ↓z_nint_sl, ↓y_sz5, ↓y_by5, ↓y_zr5, List.length_cons, List.length_nil, Nat.zero_add, ↓z_src_sl, ↓z_app_slx, ↓z_room, Nat.mul_one, maxLen_lit, reduceCtorEq, ↓z_new, ↓z_nm_nil, ↓z_pg_cons, ↓z_mn_sl, ↓z_mn_str, ↓z_mn_rop, ↓z_mn_int, ↓z_mn_slx, ↓z_mn_bool, ↓z_pg_nil, ↓z_assign, ↓z_ops_nil, ↓z_blk_nrm, ↓z_seq_nrm, ↓z_region, ↓z_move, ↓z_binOp, ↓evW_const, ↓constW_int, inR_i64, Int.reduceNeg, Int.reduceLE, and_self, ↓z_bn_add, ↓wrW_i64, ↓z_lp_nrm, Int.reduceToNat, true_and]); (try simp only [Int.toNat_natCast, Nat.mul_one, Bool.or_false, Bool.false_or, Bool.or_self, Bool.or_true])
    have hpos : 0 < (encB parts[0]).length := List.length_pos_iff.2 (encB_ne _)
    have hs' : (parts.take (0 + 1)).flatMap encB = encB parts[0] := by rw [hs]; simp
    rw [hs'] at hle
    refine ⟨by omega, by omega, .inr (.inl ⟨hpos, by omega, 0 + 1, by omega, by omega, ?_⟩)⟩
    rw [inpIs, hs']
    (simp -dsimp only [↓z_wk, ↓z_wkE_cons, ↓lkW_cons, ↓reduceIte, Nat.zero_add, D.int.injEq, true_and, Nat.reduceEqDiff, ↓z_wkE_nil, and_self, and_true, ↓z_wkO_cons, ↓lkoW_cons, ↓z_wkO_nil]); (try simp only [Int.toNat_natCast, Nat.mul_one, Bool.or_false, Bool.false_or, Bool.or_self, Bool.or_true])
    exact ⟨rfl, rfl⟩
  | succ i =>
    rw [inpIs]
    (simp -dsimp only [↓z_seq, ↓z_region, ↓z_ops_plain, ↓z_move, ↓evW_tmp, ↓lkW_cons, ↓reduceIte, ↓z_put, Nat.reduceLT, Nat.reduceEqDiff, ↓z_callb, ↓z_evL_cons, ↓z_evL_nil, ↓z_len, ↓y_ty23, ↓z_ln_sl, ↓z_binOp, ↓z_bn_lss, ↓z_ops_nil, ↓z_seq_nrm, ↓z_cond, ↓z_cnd, ↓z_gdt, ↓z_skip, ↓z_block, ↓z_indexAddr, ↓z_elTy_sl, ↓y_sz9, ↓z_ix_sl, ↓z_load, ↓y_ty9, ↓z_agTy_str, ↓loadW_rop, ↓z_rd_f, ↓z_nth_str, ↓z_callv, ↓evW_func, ↓z_fun0, ↓z_coeL_cons, ↓z_coe_str, ↓z_coeL_nil, true_and, Nat.mul_one, ↓z_exit, ↓z_seq_ext, ↓z_lp_ext, ↓z_blk_ext, ↓z_assign, ↓z_ret, ↓z_end_rt, resLW, res1W, ↓z_pack1, ↓z_coe_osl, ↓lkoW_cons, ↓z_allP_bytes, List.length_map, List.length_cons, D.sl.injEq, z_ite]); (try simp only [Int.toNat_natCast])
    refine ⟨fun h => ?_, fun h => ?_⟩
    · have hj : i + 1 < parts.length := by omega
      have hx := hp _ (List.getElem_mem hj)
      have hs := fm_s hj
      have hle := fm_le parts (i + 1 + 1)
      rw [hs, List.length_append] at hle
      refine ⟨by omega, by omega, by omega, call_fn (fn_refBytes G _ (by simpa using hx)).fn fun _ => ?_⟩
      (simp -dsimp only [↓z_put, Nat.reduceLT, ↓z_ops_plain, ↓z_callb, ↓z_evL_cons, ↓evW_tmp, ↓lkW_cons, Nat.reduceEqDiff, ↓reduceIte, ↓z_evL_nil, ↓z_append, ↓y_ty27, ↓z_slTy, ↓z_nint_sl, ↓y_sz5, ↓y_by5, ↓y_zr5, List.length_cons, List.length_nil, Nat.zero_add, ↓z_src_sl, ↓z_app_osl, ↓lkoW_cons, List.length_map, Nat.mul_one, ↓z_nmC_bytes, ↓z_room, maxLen_lit, ↓z_pgo_cons, ↓z_pgc_nm, ↓z_pgo_nil, ↓z_pg_cons, ↓z_mn_sl, ↓z_mn_str, ↓z_mn_rop, ↓z_mn_int, ↓z_mn_osl, ↓z_mn_bool, ↓z_pg_nil, ↓z_so_cons, ↓z_assign, ↓z_ops_nil, ↓z_blk_nrm, ↓z_seq_nrm, ↓z_region, ↓z_move, ↓z_binOp, ↓evW_const, ↓constW_int, inR_i64, Int.reduceNeg, Int.reduceLE, and_self, ↓z_bn_add, ↓wrW_i64, ↓z_lp_nrm, true_and]); (try simp only [Int.toNat_natCast, Nat.mul_one, Bool.or_false, Bool.false_or, Bool.or_self, Bool.or_true])
      refine ⟨by omega, by omega, by omega, by omega, i + 1 + 1, by omega, by omega, ?_⟩
      rw [inpIs, hs]
      (simp -dsimp only [↓z_wk, ↓z_wkE_cons, ↓lkW_cons, ↓reduceIte, D.int.injEq, true_and, Nat.reduceEqDiff, List.length_append, D.osl.injEq, ↓z_wkE_nil, and_self, and_true, ↓z_wkO_cons, ↓lkoW_cons, ↓z_wkO_nil]); (try simp only [Int.toNat_natCast, Nat.mul_one, Bool.or_false, Bool.false_or, Bool.or_self, Bool.or_true])
      exact ⟨⟨by omega, by omega⟩, by rw [List.map_cons, List.map_cons, List.map_append]; rfl⟩
    · have e : i + 1 = parts.length := by omega
      rw [e, List.take_length]
      exact ⟨by omega, by unfold inpL; rw [List.length_cons]; omega, rfl⟩
set_option maxRecDepth 100000 in
set_option maxHeartbeats 8000000 in
theorem fn_Input0 (G : Glob) (t : Int) : Fn G Tryd.prog 62 [.int .i64 t, .sl 1 0 []] (.slx 1 1 [bD (tagB t)]) := by
  refine Fn.mk (c := _) Tryd.func62 rfl rfl Tryd.ntmps62 Tryd.results62 ?_
  (simp -dsimp only [bodyW, List.length_cons, List.length_nil, Nat.zero_add, Nat.reduceAdd, Nat.reduceLeDiff, wfL, ↓z_seq, ↓z_region, ↓z_ops_plain, ↓z_assign, ↓evW_const, ↓constW_nils, ↓z_put, Nat.reduceLT, ↓z_ops_nil, ↓z_seq_nrm, ↓z_move, ↓evW_tmp, ↓lkW_cons, reduceCtorEq, ↓reduceIte, ↓z_lk_env, ↓z_convert, ↓y_ty3, ↓y_ty5, ↓z_cvt_int, ↓z_cv_int, ↓z_cvi_i64_u8, ↓z_buildSlice, ↓y_ty27, ↓z_slTy, ↓y_sz5, Nat.mul_one, maxLen_lit, ↓y_zr5, ↓z_repL_s, ↓z_repL_0, ↓z_cat_nil_r, ↓z_bld_cons, ↓z_cl_int, tagB_D, ↓spsW_cons, ↓drW_cons, ↓drW_nil, ↓z_bld_nil, ↓z_allP_cons, ↓z_isP_int, ↓z_allP_nil, and_self, ↓constW_int, inR_i64, Int.reduceNeg, Int.reduceLE, ↓z_block, ↓z_loop, true_and])
  intro _ _
  refine hold_intro ⟨[], Unit, fun _ => ⟨24, 0, [(6, .int .i64 0), (5, .slx 1 1 [bD (tagB t)]), (1, .sl 1 0 [])], []⟩, fun _ => True, fun _ => 0, ?_, ?_⟩
  · refine ⟨(), trivial, ?_⟩
    (simp -dsimp only [↓z_wk, ↓z_wkE_cons, ↓lkW_cons, ↓reduceIte, Nat.reduceEqDiff, tagB_D, ↓z_lk_env, reduceCtorEq, Nat.zero_add, ↓z_wkE_nil, and_self, ↓z_wkO_nil]); (try simp only [Int.toNat_natCast, Nat.mul_one, Bool.or_false, Bool.false_or, Bool.or_self, Bool.or_true])
  rintro _ _
  (simp -dsimp only [↓z_seq, ↓z_region, ↓z_ops_plain, ↓z_move, ↓evW_tmp, ↓lkW_cons, ↓reduceIte, ↓z_put, Nat.reduceLT, Nat.reduceEqDiff, ↓z_callb, ↓z_evL_cons, ↓z_evL_nil, ↓z_len, ↓y_ty23, ↓z_ln_sl, ↓z_binOp, ↓z_bn_lss, ↓z_ops_nil, ↓z_seq_nrm, ↓z_cond, ↓z_cnd, ↓z_gdt, ↓z_skip, ↓z_block, ↓z_indexAddr, ↓z_elTy_sl, ↓y_sz9, ↓z_ix_sl, Int.reduceLE, ↓z_load, ↓y_ty9, ↓z_agTy_str, ↓loadW_rop, ↓z_rd_f, Int.reduceToNat, Nat.mul_one, ↓z_callv, ↓evW_func, ↓z_fun0, ↓z_coeL_cons, ↓z_coeL_nil, true_and, ↓z_exit, ↓z_seq_ext, ↓z_lp_ext, ↓z_blk_ext, ↓z_assign, ↓z_ret, ↓z_end_rt, resLW, res1W, ↓z_pack1, ↓z_coe_slx, and_self, z_ite])
  exact ⟨fun h => absurd h (by decide), fun _ => trivial⟩
theorem fn_Input (G : Glob) (t : Int) (parts : List (List UInt8)) (hp : ∀ x ∈ parts, x.length ≤ 1000000) (ht : (parts.flatMap encB).length ≤ 1000000000) :
    Fn G Tryd.prog 62 [.int .i64 t, .sl 1 parts.length (parts.map D.str)] (.sl 1 (inpL t parts).length ((inpL t parts).map bD)) := by
  match parts, hp, ht with
  | [], _, _ => exact (fn_Input0 G t).outW (.slx ..)
  | x :: r, hp, ht => exact fn_Input1 G t (x :: r) hp ht (by simp)
set_option maxRecDepth 100000 in
set_option maxHeartbeats 8000000 in
theorem fn_rOf (t : Int) (parts : List (List UInt8)) (hp : ∀ x ∈ parts, x.length ≤ 1000000) (ht : (parts.flatMap encB).length ≤ 1000000000) :
    Fn GK Tryd.prog 48 [.int .i64 t, .sl 1 parts.length (parts.map D.str)] (.agg ((ofD t parts).map bD)) := by
  refine Fn.mk (c := _) Tryd.func48 rfl rfl Tryd.ntmps48 Tryd.results48 ?_
  (simp -dsimp only [bodyW, List.length_cons, List.length_nil, Nat.zero_add, Nat.reduceAdd, Nat.reduceLeDiff, wfL, ↓z_seq, ↓z_region, ↓z_ops_plain, ↓z_alloc, ↓y_zr39, ↓z_new, ↓z_nm_nil, Nat.reduceLT, ↓z_pg_env, ↓z_mn_int, ↓z_mn_sl, ↓z_pg_env0, ↓z_put, ↓z_ops_nil, ↓z_seq_nrm, ↓z_move, ↓evW_tmp, ↓lkW_cons, reduceCtorEq, ↓reduceIte, Nat.reduceEqDiff, ↓z_callv, ↓evW_func, ↓z_evL_cons, ↓z_evL_nil, ↓z_fun0, ↓z_coeL_cons, ↓z_coe_int, ↓z_coe_sl, ↓z_coeL_nil, true_and])
  intro _ _
  refine call_fn (fn_Input GK t parts hp ht) fun _ => ?_
  (simp -dsimp only [↓z_put, Nat.reduceLT, ↓z_ops_plain, ↓z_callv, ↓evW_func, ↓z_evL_cons, ↓evW_tmp, ↓lkW_cons, ↓reduceIte, ↓z_evL_nil, ↓z_fun0, ↓z_coeL_cons, ↓z_coe_sl, ↓z_coeL_nil, true_and])
  refine call_fn (fn_Short (inpL t parts) (by unfold inpL; rw [List.length_cons]; omega)) fun _ => ?_
  have hl := ofD_len t parts
  unfold ofD at hl
  (simp -dsimp only [↓z_put, Nat.reduceLT, ↓z_ops_plain, ↓z_store, ↓evW_tmp, ↓lkW_cons, Nat.reduceEqDiff, ↓reduceIte, ↓y_sz39, ↓z_cl_agg, List.length_map, hl, ↓z_store_ptr, ↓lkoW_cons, Nat.zero_add, List.length_cons, List.length_nil, Nat.reduceAdd, Nat.reduceLeDiff, ↓spsW_cons, ↓drW_cons, reduceCtorEq, Nat.reduceSub, ↓drW_nil, ↓z_cat_nil_r, ↓z_so_cons, ↓z_put_none, ↓z_ops_nil, ↓z_seq_nrm, ↓z_ret, ↓z_end_rt, resLW, res1W, ↓y_ty39, ↓z_agTy_arr, ↓z_coeL_cons, ↓z_coeL_nil, ↓z_pack1, ↓loadW_ptr, ↓z_rd_t, ↓z_sub_map, ↓z_coe_oag, ↓z_coeC_bytes, List.drop_zero, D.agg.injEq, true_and]); (try simp only [Int.toNat_natCast, Nat.mul_one, Bool.or_false, Bool.false_or, Bool.or_self, Bool.or_true])
  rw [List.take_of_length_le (by omega)]; rfl
set_option maxRecDepth 100000 in
set_option maxHeartbeats 8000000 in
theorem fn_Of (t : Int) (parts : List (List UInt8)) (hp : ∀ x ∈ parts, x.length ≤ 1000000) (ht : (parts.flatMap encB).length ≤ 1000000000) :
    Fn GH Tryd.prog 39 [.int .i64 t, .sl 1 parts.length (parts.map D.str)] (.agg ((ofD t parts).map bD)) := by
  refine Fn.mk (c := _) Tryd.func39 rfl rfl Tryd.ntmps39 Tryd.results39 ?_
  (simp -dsimp only [bodyW, List.length_cons, List.length_nil, Nat.zero_add, Nat.reduceAdd, Nat.reduceLeDiff, wfL, ↓z_seq, ↓z_region, ↓z_ops_plain, ↓z_alloc, ↓y_zr39, ↓z_new, ↓z_nm_nil, Nat.reduceLT, ↓z_pg_env, ↓z_mn_int, ↓z_mn_sl, ↓z_pg_env0, ↓z_put, ↓z_ops_nil, ↓z_seq_nrm, ↓z_region_d, ↓y_mix, true_and])
  intro _ hw
  have hw' : parts.length ≤ 9223372036854775807 := hw.1.1
  refine rgn_x 7 [] (by decide +kernel) ?_
  (simp -dsimp only [↓z_nmRE_cons, ↓z_nmR_ptr, Nat.zero_add, Nat.reduceLT, Nat.reduceLeDiff, or_false, ↓z_nmR_int, ↓z_nmR_sl, ↓z_nmRE_nil, and_self, ↓z_nmRO_cons, ↓z_nmRL_cons, ↓z_nmRL_nil, ↓z_nmRO_nil, ↓z_splitO_cons, List.not_mem_nil, ↓reduceIte, ↓z_splitO_nil, List.take_succ_cons, List.take_zero, List.drop_succ_cons, List.drop_zero, ↓z_seq, ↓z_region, ↓z_ops_plain, ↓z_move, ↓z_callb, ↓z_evL_cons, ↓z_evL_nil, ↓z_len, ↓y_ty23, ↓evW_const, ↓constW_int, inR_i64, Int.reduceNeg, Int.reduceLE, ↓z_ops_nil, ↓z_seq_nrm, ↓z_block, ↓z_loop, true_and, resLW, res1W, ↓y_ty39, ↓y_sz39, ↓z_agTy_arr, ↓z_coeL_cons, ↓z_coeL_nil, ↓z_pack1, ↓z_store, ↓evW_tmp, ↓y_sz103, ↓z_put_none, ↓z_drx_callv])
  refine cv_ex ?_
  (simp -dsimp only [↓z_drxA_callv, ↓z_grd_none, ↓z_withE, ↓z_rd_func, ↓z_rd_nil])
  refine ex_mk (.agg (strC str0)) (fun E X => by (simp -dsimp only [↓z_ap_nil, ↓z_apO_cons, ↓z_apO_nil, ↓z_callv, ↓evW_func, ↓z_evL_nil, ↓z_fun0, ↓z_coeL_nil]); (try simp only [Int.toNat_natCast, Nat.mul_one, Bool.or_false, Bool.false_or, Bool.or_self, Bool.or_true]); exact call_fn (fn_Begin GH) fun _ => ⟨rfl, rfl⟩) ?_
  (simp -dsimp only [↓z_nmR_agg, ↓z_put, Nat.reduceLT, ↓z_drxK, ↓z_drx_move, ↓z_drxS, ↓z_grd_none, ↓z_withE, ↓z_rd_tmp, ↓lkW_cons, reduceCtorEq, ↓reduceIte, ↓z_rd_nil, ↓z_ap_cons, ↓z_ap_nil, ↓z_apO_cons, ↓z_apO_nil, ↓z_or_move, ↓z_move, ↓evW_tmp, and_true, ↓z_exD_all, ↓z_exD_all2, ↓z_exD_eq, ↓z_nmR_int, ↓z_drx_convert, ↓z_or_convert, ↓y_ty3, ↓y_ty5, ↓z_cvR_int, ↓z_convert, ↓z_cvt_int, ↓z_cv_int, ↓z_cvi_i64_u8, tagB_D, nmR_bD, ↓z_drx_buildSlice, ↓z_mpO_cons, ↓z_mpO_nil, ↓z_ap_app, ↓z_or_buildSlice, ↓z_buildSlice, ↓y_ty27, ↓z_slTy, ↓y_sz5, Nat.mul_one, Nat.reduceLeDiff, maxLen_lit, ↓y_zr5, List.length_cons, List.length_nil, Nat.zero_add, ↓z_repL_s, ↓z_repL_0, ↓z_cat_nil_r, ↓z_bld_cons, ↓spsW_cons, ↓drW_cons, ↓drW_nil, ↓z_bld_nil, true_and, clW_bD, ↓z_allP_cons, isP_bD, ↓z_allP_nil, and_self, ↓z_nmR_slx, ↓y_ty9, ↓z_cvR_sl, ↓z_cvt_bs, ↓z_u8, ↓z_cv_bs_slx, bs_1, ↓z_nmR_str, ↓z_drx_callv]); (try simp only [Int.toNat_natCast, Nat.mul_one, Bool.or_false, Bool.false_or, Bool.or_self, Bool.or_true])
  refine cv_ex ?_
  (simp -dsimp only [↓z_drxA_callv, ↓z_grd_none, ↓z_withE, ↓z_rd_func, ↓z_rd_tmp, ↓lkW_cons, Nat.reduceEqDiff, ↓reduceIte, ↓z_rd_nil]); (try simp only [Int.toNat_natCast, Nat.mul_one, Bool.or_false, Bool.false_or, Bool.or_self, Bool.or_true])
  refine ex_mk (.agg (strC (addS str0 [tagB t]))) (fun E X => by (simp -dsimp only [↓z_ap_cons, ↓z_ap_nil, ↓z_apO_cons, ↓z_apO_nil, ↓z_callv, ↓evW_func, ↓z_evL_cons, ↓evW_tmp, ↓lkW_cons, ↓reduceIte, Nat.reduceEqDiff, ↓z_evL_nil, ↓z_fun0, ↓z_coeL_cons, ↓z_coe_agg, ↓z_coe_str, ↓z_coeL_nil]); (try simp only [Int.toNat_natCast, Nat.mul_one, Bool.or_false, Bool.false_or, Bool.or_self, Bool.or_true]); exact call_fn (fn_Add str0 rfl [tagB t] (by simp [str0])) fun _ => ⟨rfl, rfl⟩) ?_
  (simp -dsimp only [↓z_nmR_agg, ↓z_put, Nat.reduceLT, ↓z_drxK, ↓z_drx_alloc, ↓y_zr103, ↓z_nmRL_cons, ↓z_nmR_int, ↓z_nmRL_nil, and_self, ↓z_drx_nil, ↓z_apO_cons, ↓z_apO_nil, ↓lkW_cons, ↓reduceIte, Nat.reduceEqDiff, ↓z_cl_agg, ↓z_store_ptr, ↓lkoW_cons, Nat.zero_add, List.length_cons, List.length_nil, Nat.reduceAdd, Nat.reduceLeDiff, ↓spsW_cons, ↓drW_cons, reduceCtorEq, Nat.reduceSub, ↓drW_nil, ↓z_cat_nil_r, ↓z_so_cons, ↓evW_tmp, ↓z_ln_sl, true_and]); (try simp only [Int.toNat_natCast, Nat.mul_one, Bool.or_false, Bool.false_or, Bool.or_self, Bool.or_true])
  have hT : ∀ i, tagB t :: (parts.take i).flatMap encB = [tagB t] ++ (parts.take i).flatMap encB := fun i => rfl
  have hSb : ∀ m, (addS str0 m).blk.length = 64 := fun m => by rw [addS_blk]; rfl
  have hSn : ∀ m, (addS str0 m).n = m.length := fun m => by rw [addS_n]; simp [str0]
  have l0 := fun m => strC_len (hSb m)
  refine ⟨l0 _, hold_intro ⟨[], Nat, fun i => ⟨32, 2, [(17, .int .i64 i), (16, .int .i64 parts.length), (15, .sl 1 parts.length (parts.map D.str)), (5, .ptr 1 0), (4, .ptr 0 0)],
    [(1, strC (addS str0 (tagB t :: (parts.take i).flatMap encB))), (0, (List.replicate 16 (0 : UInt8)).map bD)]⟩, fun i => i ≤ parts.length, fun i => parts.length - i, ?_, ?_⟩⟩
  · (simp -dsimp only [↓z_ad_nil, ↓z_wk, ↓z_wkE_cons, ↓lkW_cons, ↓reduceIte, D.int.injEq, true_and, Nat.reduceEqDiff, ↓z_wkE_nil, and_self, and_true, ↓z_wkO_cons, ↓lkoW_cons, reduceCtorEq, ↓z_wkO_nil]); (try simp only [Int.toNat_natCast, Nat.mul_one, Bool.or_false, Bool.false_or, Bool.or_self, Bool.or_true])
    exact ⟨0, by omega, rfl, rfl, rfl⟩
  rintro i hi
  obtain ⟨m, hm⟩ : ∃ m, tagB t :: (parts.take i).flatMap encB = m := ⟨_, rfl⟩
  have hml : m.length ≤ 1000000001 := by rw [← hm, List.length_cons]; have := fm_le parts i; omega
  have l1 := l0 m
  have t1 : List.take 73 (List.drop 0 (strC (addS str0 m))) = strC (addS str0 m) := List.take_of_length_le (by rw [List.drop_zero]; omega)
  by_cases h : i < parts.length
  · have hx := hp _ (List.getElem_mem h)
    have hs := fm_s h
    have hle := fm_le parts (i + 1)
    rw [hs, List.length_append] at hle
    have hm' : tagB t :: (parts.take (i + 1)).flatMap encB = m ++ encB parts[i] := by rw [hs, ← hm]; rfl
    (simp -dsimp only [↓z_seq, ↓z_region, ↓z_ops_plain, ↓z_binOp, ↓evW_tmp, ↓lkW_cons, ↓reduceIte, Nat.reduceEqDiff, ↓z_bn_lss, ↓z_put, Nat.reduceLT, ↓z_ops_nil, ↓z_seq_nrm, ↓z_cond, ↓z_cnd, ↓z_gdt, ↓z_skip, ↓z_block, ↓z_indexAddr, ↓y_ty23, ↓z_elTy_sl, ↓y_sz9, ↓z_ix_sl, ↓z_load, ↓y_ty9, ↓z_agTy_str, ↓loadW_rop, ↓z_rd_f, ↓z_nth_str, ↓z_assign, ↓z_region_d, ↓y_mix, true_and, Nat.mul_one, ↓z_exit, ↓z_seq_ext, ↓z_lp_ext, ↓z_blk_ext, ↓y_ty103, ↓y_sz103, ↓z_agTy_st, ↓loadW_ptr, ↓lkoW_cons, ↓z_rd_t, Nat.zero_add, hm, ↓z_callv, ↓evW_func, ↓z_evL_cons, ↓z_evL_nil, ↓z_fun0, ↓z_coeL_cons, ↓z_coe_oag, ↓z_coeL_nil, z_sub, z_ite]); (try simp only [Int.toNat_natCast])
    refine ⟨fun _ => ⟨by omega, by omega, by omega, rgn_d (by decide +kernel) ?_⟩, fun hh => absurd h (by omega)⟩
    (simp -dsimp only [↓z_drw_load, ↓z_drwS, ↓z_grd_none, ↓z_withE, ↓z_rd_tmp, ↓lkW_cons, Nat.reduceEqDiff, ↓reduceIte, ↓z_rd_nil, ↓z_ap_cons, ↓z_ap_nil, ↓z_or_load, ↓z_load, ↓evW_tmp, ↓y_ty103, ↓y_sz103, ↓z_agTy_st, ↓loadW_ptr, ↓lkoW_cons, ↓z_rd_t, Nat.zero_add, hm, l1, Nat.reduceLeDiff, and_true, z_sub, t1, true_and, ↓z_exD_all, ↓z_exD_eq, ↓z_put, Nat.reduceLT, ↓z_drwK, ↓z_drw_move, ↓z_or_move, ↓z_move, Nat.mul_one, ↓z_drw_callv, ↓z_rd_func]); (try simp only [Int.toNat_natCast, Nat.mul_one, Bool.or_false, Bool.false_or, Bool.or_self, Bool.or_true])
    refine ex_mk (.sl 1 (encB parts[i]).length ((encB parts[i]).map bD)) (fun E => by (simp -dsimp only [↓z_ap_cons, ↓z_ap_nil, ↓z_callv, ↓evW_func, ↓z_evL_cons, ↓evW_tmp, ↓lkW_cons, ↓reduceIte, ↓z_evL_nil, ↓z_fun0, ↓z_coeL_cons, ↓z_coe_str, ↓z_coeL_nil]); (try simp only [Int.toNat_natCast, Nat.mul_one, Bool.or_false, Bool.false_or, Bool.or_self, Bool.or_true]); exact call_fn (fn_Bytes GH _ hx).fn fun _ => ⟨rfl, rfl⟩) ?_
    (simp -dsimp only [↓z_put, Nat.reduceLT, ↓z_drwK, ↓z_drw_convert, ↓z_drwS, ↓z_grd_none, ↓z_withE, ↓z_rd_tmp, ↓lkW_cons, ↓reduceIte, ↓z_rd_nil, ↓z_ap_cons, ↓z_ap_nil, ↓z_or_convert, ↓y_ty27, ↓y_ty9, ↓z_cvR_sl, ↓z_convert, ↓evW_tmp, ↓z_cvt_bs, ↓y_ty5, ↓z_u8, ↓z_cv_bs_sl, ↓bsW_map, hm, and_true, true_and, ↓z_exD_all, ↓z_exD_eq, ↓z_drw_callv, ↓z_rd_func, Nat.reduceEqDiff]); (try simp only [Int.toNat_natCast, Nat.mul_one, Bool.or_false, Bool.false_or, Bool.or_self, Bool.or_true])
    have l2 := l0 (m ++ encB parts[i])
    have t2 : List.take 0 (strC (addS str0 m)) ++ strC (addS str0 (m ++ encB parts[i])) ++ List.drop 73 (strC (addS str0 m)) = strC (addS str0 (m ++ encB parts[i])) := by
      rw [List.take_zero, List.nil_append, List.drop_of_length_le (by omega), List.append_nil]
    refine ex_mk (.agg (strC (addS str0 (m ++ encB parts[i])))) (fun E => by (simp -dsimp only [↓z_ap_cons, ↓z_ap_nil, ↓z_callv, ↓evW_func, ↓z_evL_cons, ↓evW_tmp, ↓lkW_cons, ↓reduceIte, Nat.reduceEqDiff, ↓z_evL_nil, ↓z_fun0, ↓z_coeL_cons, ↓z_coe_oag, hm, ↓z_coe_str, ↓z_coeL_nil, coe_str]); (try simp only [Int.toNat_natCast, Nat.mul_one, Bool.or_false, Bool.false_or, Bool.or_self, Bool.or_true]); exact call_fn ((fn_Add (addS str0 m) (hSb m) (encB parts[i]) (by rw [hSn]; omega)).out (by rw [addS_app])) fun _ => ⟨rfl, rfl⟩) ?_
    (simp -dsimp only [↓z_put, Nat.reduceLT, ↓z_drwK, ↓z_drw_store, ↓z_ops_plain, ↓z_store, ↓evW_tmp, ↓lkW_cons, Nat.reduceEqDiff, ↓reduceIte, ↓y_sz103, ↓z_cl_agg, l2, ↓z_store_ptr, ↓lkoW_cons, Nat.zero_add, hm, l1, Nat.reduceLeDiff, ↓z_so_cons, ↓z_put_none, ↓z_ops_nil, ↓z_blk_nrm, ↓z_seq_nrm, ↓z_region, ↓z_binOp, ↓evW_const, ↓constW_int, inR_i64, Int.reduceNeg, Int.reduceLE, and_self, ↓z_bn_add, ↓wrW_i64, ↓z_move, ↓z_lp_nrm, ↓z_wk, ↓z_wkE_cons, D.int.injEq, true_and, ↓z_wkE_nil, and_true, ↓z_wkO_cons, reduceCtorEq, ↓z_wkO_nil, z_sps, t2]); (try simp only [Int.toNat_natCast, Nat.mul_one, Bool.or_false, Bool.false_or, Bool.or_self, Bool.or_true])
    exact ⟨by omega, i + 1, by omega, by omega, by omega, by rw [hm']⟩
  · have hi' : i = parts.length := by omega
    have hme : inpL t parts = m := by rw [← hm, hi', List.take_length]; rfl
    have hls : sumS (addS str0 m) = sha m := rfl
    have lsh := sha_len m
    have tk : (List.take 16 (sha m)).length = 16 := by rw [List.length_take]; omega
    (simp -dsimp only [↓z_seq, ↓z_region, ↓z_ops_plain, ↓z_binOp, ↓evW_tmp, ↓lkW_cons, ↓reduceIte, Nat.reduceEqDiff, ↓z_bn_lss, ↓z_put, Nat.reduceLT, ↓z_ops_nil, ↓z_seq_nrm, ↓z_cond, ↓z_cnd, ↓z_gdt, ↓z_skip, ↓z_block, ↓z_indexAddr, ↓y_ty23, ↓z_elTy_sl, ↓y_sz9, ↓z_ix_sl, ↓z_load, ↓y_ty9, ↓z_agTy_str, ↓loadW_rop, ↓z_rd_f, ↓z_nth_str, ↓z_assign, ↓z_region_d, ↓y_mix, true_and, Nat.mul_one, ↓z_exit, ↓z_seq_ext, ↓z_lp_ext, ↓z_blk_ext, ↓y_ty103, ↓y_sz103, ↓z_agTy_st, ↓loadW_ptr, ↓lkoW_cons, ↓z_rd_t, Nat.zero_add, hm, ↓z_callv, ↓evW_func, ↓z_evL_cons, ↓z_evL_nil, ↓z_fun0, ↓z_coeL_cons, ↓z_coe_oag, ↓z_coeL_nil, z_sub, z_ite]); (try simp only [Int.toNat_natCast])
    refine ⟨fun hh => absurd hh (by omega), fun _ => ?_⟩
    rw [hm, t1, coe_str]
    refine ⟨by omega, call_wk ⟨32, 2, [(4, .ptr 0 0)], [(0, (List.replicate 16 (0 : UInt8)).map bD)]⟩ (by (simp -dsimp only [↓z_wk, ↓z_wkE_cons, ↓lkW_cons, Nat.reduceEqDiff, ↓reduceIte, ↓z_wkE_nil, and_self, ↓z_wkO_cons, ↓lkoW_cons, reduceCtorEq, ↓z_wkO_nil]); (try simp only [Int.toNat_natCast, Nat.mul_one, Bool.or_false, Bool.false_or, Bool.or_self, Bool.or_true])) (call0_fn ((fn_Sum (addS str0 m) (hSb m) (by rw [hSn]; omega)).out (by rw [hls])) fun _ => ?_)⟩
    (simp -dsimp only [↓z_put, Nat.reduceLT, ↓z_ops_plain, ↓z_alloc, ↓y_zr107, ↓z_new, ↓z_nm_cons, ↓z_nmC_bytes, ↓z_nm_nil, ↓z_pg_cons, ↓z_mn_agg, ↓z_mn_ptr, reduceCtorEq, ↓reduceIte, ↓z_pg_nil, ↓z_store, ↓evW_tmp, ↓lkW_cons, Nat.reduceEqDiff, ↓y_sz107, ↓z_cl_agg, List.length_map, lsh, ↓z_store_ptr, ↓lkoW_cons, Nat.zero_add, List.length_cons, List.length_nil, Nat.reduceAdd, Nat.reduceLeDiff, ↓spsW_cons, ↓drW_cons, Nat.reduceSub, ↓drW_nil, ↓z_cat_nil_r, ↓z_so_cons, ↓z_put_none, ↓z_ops_nil, ↓z_seq_nrm, ↓z_seq, ↓z_region, ↓z_slice, ↓z_evO_none, ↓z_bo_none, ↓z_evO_some, ↓evW_const, ↓constW_int, inR_i64, Int.reduceNeg, Int.reduceLE, and_self, ↓z_bo_some, ↓y_ty107, ↓z_seTy_arr, ↓y_sz5, ↓z_slc_ptr_nh, Nat.mul_one, maxLen_lit, ↓z_s2a, ↓y_ty39, ↓z_arTy, ↓z_s2a_osw, Int.reduceToNat, ↓z_load, ↓y_sz39, ↓z_agTy_arr, ↓loadW_ptr, ↓z_rd_t, ↓z_sub_map, ↓z_cl_oag, List.drop_zero, tk, ↓z_sps_map, ↓z_ret, ↓z_end_rt, resLW, res1W, List.take_zero, List.nil_append, ↓z_coeL_cons, ↓z_coeL_nil, ↓z_pack1, List.length_append, List.length_drop, ↓z_coe_oag, ↓z_coeC_bytes, D.agg.injEq, true_and]); (try simp only [Int.toNat_natCast, Nat.mul_one, Bool.or_false, Bool.false_or, Bool.or_self, Bool.or_true])
    refine ⟨by decide, by decide, by decide, ?_⟩
    rw [show List.drop 16 (List.replicate 16 (0 : UInt8)) = [] from rfl, List.append_nil, List.take_take, ofD, hme]; rfl
end Go.Abs
end
