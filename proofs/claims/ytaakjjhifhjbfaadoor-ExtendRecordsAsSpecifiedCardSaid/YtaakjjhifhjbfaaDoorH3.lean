/-
  HASH, first walks: the encodings that it needs of the wire package.
-/
import Derived.Test.YtaakjjhifhjbfaaDoorTy
import Derived.Lib.Zigzag
import Derived.Lib.VarintDec
import Derived.Test.YtaakjjhifhjbfaaDoorS1
section
namespace Go.Abs
open Go.Proofs

theorem wrap8 (x : Int) : IntKind.u8.wrap x = x % 256 := by rw [IntKind.wrap_u8]
theorem wrap64 (x : Int) : IntKind.u64.wrap x = x % 18446744073709551616 := by rw [IntKind.wrap_u64]
theorem shr7 (x : Nat) : shrI .u64 (x : Int) 7 = ((x / 128 : Nat) : Int) := by
  show (x : Int) / 2 ^ 7 = _
  omega
theorem bD_nat {n : Nat} (h : n < 256) : bD n.toUInt8 = .int .u8 n := by
  unfold bD
  have : n.toUInt8.toNat = n := by simp [Nat.toUInt8, UInt8.toNat_ofNat', Nat.mod_eq_of_lt h]
  rw [this]
theorem zz_eq {v : Int} (h0 : -9223372036854775808 ≤ v) (h1 : v ≤ 9223372036854775807) :
    bits .xor .u64 (shlI .u64 (IntKind.u64.wrap v) 1) (IntKind.u64.wrap (shrI .i64 v 63)) = ((Lib.zigzag v : Nat) : Int) := by
  have e1 : shlI .u64 (IntKind.u64.wrap v) 1 = IntKind.u64.wrap (IntKind.u64.wrap v * 2) := rfl
  have e2 : shrI .i64 v 63 = v / 9223372036854775808 := rfl
  rw [e1, e2]
  by_cases hv : 0 ≤ v
  · have e3 : v / 9223372036854775808 = 0 := by omega
    have e4 : IntKind.u64.wrap (IntKind.u64.wrap v * 2) = (((2 * v).toNat : Nat) : Int) := by rw [wrap64, wrap64]; omega
    have e5 : IntKind.u64.wrap 0 = ((0 : Nat) : Int) := by decide
    rw [e3, e4, e5, bits_xor_u64_nat _ _ (by omega) (by decide), Nat.xor_zero]
    unfold Lib.zigzag
    rw [if_pos hv]
  · have e3 : v / 9223372036854775808 = -1 := by omega
    have e4 : IntKind.u64.wrap (IntKind.u64.wrap v * 2) = (((2 * v + 18446744073709551616).toNat : Nat) : Int) := by rw [wrap64, wrap64]; omega
    have e5 : IntKind.u64.wrap (-1) = ((2 ^ 64 - 1 : Nat) : Int) := by decide
    rw [e3, e4, e5, bits_xor_u64_nat _ _ (by omega) (by decide), Nat.xor_comm, Lib.xor_ones64 _ (by omega)]
    unfold Lib.zigzag
    rw [if_neg hv]
    omega

/-- An integer's encoding. -/
def encI (v : Int) : List UInt8 := Lib.uvarint (Lib.zigzag v)
theorem encI_len {v : Int} (h0 : -9223372036854775808 ≤ v) (h1 : v ≤ 9223372036854775807) : (encI v).length ≤ 10 := Lib.uvarint_length64 (Lib.zigzag_lt h0 h1)

theorem or128 (x : Nat) : bits .or .u8 (IntKind.u8.wrap (x : Int)) 128 = ((x % 128 + 128 : Nat) : Int) := by
  rw [wrap8, Lib.u8_or128_any _ (by omega) (by omega)]; omega

set_option maxRecDepth 100000 in
set_option maxHeartbeats 4000000 in
theorem fn_Int (G : Glob) (v : Int) : FnS G Tryd.prog 51 [.int .i64 v] 1 (encI v).length ((encI v).map bD) := by
  refine FnS.mk (c := _) Tryd.func51 rfl rfl Tryd.ntmps51 Tryd.results51 ?_
  (simp -dsimp only [bodyW, List.length_cons, List.length_nil, Nat.zero_add, Nat.reduceLeDiff, wfL, ↓z_seq, ↓z_region, ↓z_ops_plain, ↓z_assign, ↓evW_const, ↓constW_nils, ↓z_put, Nat.reduceLT, ↓z_ops_nil, ↓z_seq_nrm, ↓z_move, ↓evW_tmp, ↓lkW_cons, reduceCtorEq, ↓reduceIte, ↓z_lk_env, ↓z_convert, ↓y_ty3, ↓y_ty101, ↓z_cvt_int, ↓z_cv_int, ↓z_cvi_i64_u64, ↓z_binOp, ↓constW_int, inR_u64, Int.reduceLE, and_self, ↓z_bn_shl, ↓z_bn_shr, Nat.reduceEqDiff, ↓z_bn_xor, ↓z_block, ↓z_loop, true_and])
  intro hv
  have hr : -9223372036854775808 ≤ v ∧ v ≤ 9223372036854775807 := hv.1
  have hl := encI_len hr.1 hr.2
  refine hold_intro ⟨[(4, 1)], Nat × List UInt8, fun x => ⟨27, 1, [(3, .int .u64 x.1), (4, .osl 0 1 x.2.length)], [(0, x.2.map bD)]⟩, fun x => x.2 ++ Lib.uvarint x.1 = encI v ∧ x.1 < 18446744073709551616, fun x => x.1, ?_, ?_⟩
  · (simp -dsimp only [↓z_ad_cons, Nat.reduceLT, ↓lkW_cons, ↓reduceIte, ↓z_nm_nil, ↓z_pg_cons, ↓z_mn_nils, ↓z_mn_int, ↓z_pg_env, ↓z_pg_env0, ↓z_ad_nil, ↓z_wk, ↓z_wkE_cons, Nat.reduceEqDiff, D.int.injEq, true_and, D.osl.injEq, ↓z_wkE_nil, and_true, ↓z_wkO_cons, ↓lkoW_cons, ↓z_wkO_nil]); (try simp only [Int.toNat_natCast, Nat.mul_one, Bool.or_false, Bool.false_or, Bool.or_self, Bool.or_true])
    exact ⟨(Lib.zigzag v, []), ⟨rfl, Lib.zigzag_lt hr.1 hr.2⟩, ⟨zz_eq hr.1 hr.2, rfl⟩, rfl⟩
  · rintro ⟨x, out⟩ ⟨h1, h2⟩
    (simp -dsimp only [↓z_seq, ↓z_region, ↓z_ops_plain, ↓z_move, ↓evW_tmp, ↓lkW_cons, ↓reduceIte, ↓z_put, Nat.reduceLT, ↓z_binOp, ↓evW_const, ↓constW_int, inR_u64, Int.reduceLE, and_self, ↓z_bn_gtr, ↓z_ops_nil, ↓z_seq_nrm, ↓z_cond, ↓z_cnd, ↓z_gdt, ↓z_skip, ↓z_block, Nat.reduceEqDiff, ↓z_convert, ↓y_ty101, ↓y_ty5, ↓z_cvt_int, ↓z_cv_int, ↓z_cvi_u64_u8, inR_u8, ↓z_bn_or, ↓z_buildSlice, ↓y_ty27, ↓z_slTy, ↓y_sz5, Nat.mul_one, Nat.reduceLeDiff, maxLen_lit, ↓y_zr5, List.length_cons, List.length_nil, Nat.zero_add, ↓z_repL_s, ↓z_repL_0, ↓z_cat_nil_r, ↓z_bld_cons, ↓z_cl_int, ↓spsW_cons, ↓drW_cons, reduceCtorEq, ↓drW_nil, ↓z_bld_nil, ↓z_allP_cons, ↓z_isP_int, ↓z_allP_nil, ↓z_callb, ↓z_evL_cons, ↓z_evL_nil, ↓z_append, ↓z_nint_sl, ↓y_by5, ↓z_src_slx, ↓z_app_osl, ↓lkoW_cons, List.length_map, ↓z_nmC_bytes, ↓z_room, ↓z_pgo_cons, ↓z_pgc_nm, ↓z_pgo_nil, ↓z_pg_cons, ↓z_mn_slx, ↓z_mn_int, ↓z_mn_osl, ↓z_mn_bool, ↓z_pg_nil, ↓z_so_cons, ↓z_assign, ↓z_blk_nrm, ↓z_bn_shr, ↓z_lp_nrm, ↓z_wk, ↓z_wkE_cons, D.int.injEq, true_and, D.osl.injEq, ↓z_wkE_nil, and_true, ↓z_wkO_cons, ↓z_wkO_nil, ↓z_exit, ↓z_seq_ext, ↓z_lp_ext, ↓z_blk_ext, ↓z_ret, ↓z_end_rt, resLW, res1W, ↓z_own_osl, ↓z_allP_app, ↓z_allP_bytes, List.length_append, z_ite]); (try simp only [Int.toNat_natCast, Nat.mul_one, Bool.or_false, Bool.false_or, Bool.or_self, Bool.or_true])
    have hlen : out.length + 1 ≤ (encI v).length := by
      rw [← h1, List.length_append]; have := Lib.uvarint_pos x; simp only; omega
    refine ⟨fun hx => ⟨by omega, by omega, (x / 128, out ++ [(x % 128 + 128).toUInt8]), ⟨?_, by simp only at h2 ⊢; omega⟩, by simp only; omega, ⟨shr7 x, by simp⟩, ?_⟩, fun hx => ⟨by omega, by omega, ?_⟩⟩
    · simp only at h1 ⊢
      rw [← h1, Lib.uvarint_big (x := x) (by omega)]; simp
    · rw [or128, List.map_append, List.map_cons, List.map_nil, bD_nat (by omega)]
    · simp only at h1
      rw [← h1, Lib.uvarint_small (x := x) (by omega)]
      refine ⟨by simp, ?_⟩
      rw [List.map_append, List.map_cons, List.map_nil, bD_nat (by omega), wrap8]
      congr 3; omega

theorem shr7' (x : Nat) : (x : Int) / 128 = ((x / 128 : Nat) : Int) := by omega

set_option maxRecDepth 100000 in
set_option maxHeartbeats 4000000 in
theorem fn_refInt (G : Glob) (v : Int) : FnS G Tryd.prog 60 [.int .i64 v] 1 (encI v).length ((encI v).map bD) := by
  refine FnS.mk (c := _) Tryd.func60 rfl rfl Tryd.ntmps60 Tryd.results60 ?_
  (simp -dsimp only [bodyW, List.length_cons, List.length_nil, Nat.zero_add, Nat.reduceLeDiff, wfL, ↓z_seq, ↓z_region, ↓z_ops_plain, ↓z_assign, ↓evW_const, ↓constW_nils, ↓z_put, Nat.reduceLT, ↓z_ops_nil, ↓z_seq_nrm, ↓z_move, ↓evW_tmp, ↓lkW_cons, reduceCtorEq, ↓reduceIte, ↓z_lk_env, ↓z_convert, ↓y_ty3, ↓y_ty101, ↓z_cvt_int, ↓z_cv_int, ↓z_cvi_i64_u64, ↓z_binOp, ↓constW_int, inR_u64, Int.reduceLE, and_self, ↓z_bn_mul, ↓wrW_u64, inR_i64, Int.reduceNeg, ↓z_bn_lss, ↓z_cond, ↓z_cnd, ↓z_gdt, ↓z_bn_sub, ↓wrW_i64, ↓z_bn_add, ↓z_block, ↓z_loop, true_and, ↓z_skip, z_ite])
  intro hv
  have hr : -9223372036854775808 ≤ v ∧ v ≤ 9223372036854775807 := hv.1
  have hl := encI_len hr.1 hr.2
  refine ⟨fun hv0 => ⟨by omega, ?_⟩, fun hv0 => ?_⟩
  all_goals
    refine hold_intro ⟨[(4, 1)], Nat × List UInt8, fun x => ⟨31, 1, [(3, .int .u64 x.1), (4, .osl 0 1 x.2.length)], [(0, x.2.map bD)]⟩, fun x => x.2 ++ Lib.uvarint x.1 = encI v ∧ x.1 < 18446744073709551616, fun x => x.1, ?_, ?_⟩
  case refine_1.refine_1 =>
    (simp -dsimp only [↓z_ad_cons, Nat.reduceLT, ↓lkW_cons, ↓reduceIte, ↓z_nm_nil, ↓z_pg_cons, ↓z_mn_nils, ↓z_mn_int, ↓z_mn_bool, ↓z_pg_env, ↓z_pg_env0, ↓z_ad_nil, ↓z_wk, ↓z_wkE_cons, Nat.reduceEqDiff, Int.reduceNeg, D.int.injEq, true_and, D.osl.injEq, ↓z_wkE_nil, and_true, ↓z_wkO_cons, ↓lkoW_cons, ↓z_wkO_nil]); (try simp only [Int.toNat_natCast, Nat.mul_one, Bool.or_false, Bool.false_or, Bool.or_self, Bool.or_true])
    refine ⟨(Lib.zigzag v, []), ⟨rfl, Lib.zigzag_lt hr.1 hr.2⟩, ⟨?_, rfl⟩, rfl⟩
    simp only [wrap64, Lib.zigzag, if_neg (show ¬ 0 ≤ v by omega)]
    omega
  case refine_2.refine_1 =>
    (simp -dsimp only [↓z_ad_cons, Nat.reduceLT, ↓lkW_cons, ↓reduceIte, ↓z_nm_nil, ↓z_pg_cons, ↓z_mn_nils, ↓z_mn_bool, ↓z_mn_int, ↓z_pg_env, ↓z_pg_env0, ↓z_ad_nil, ↓z_wk, ↓z_wkE_cons, Nat.reduceEqDiff, D.int.injEq, true_and, D.osl.injEq, ↓z_wkE_nil, and_true, ↓z_wkO_cons, ↓lkoW_cons, ↓z_wkO_nil]); (try simp only [Int.toNat_natCast, Nat.mul_one, Bool.or_false, Bool.false_or, Bool.or_self, Bool.or_true])
    refine ⟨(Lib.zigzag v, []), ⟨rfl, Lib.zigzag_lt hr.1 hr.2⟩, ⟨?_, rfl⟩, rfl⟩
    simp only [wrap64, Lib.zigzag, if_pos (show 0 ≤ v by omega)]
    omega
  all_goals
    rintro ⟨x, out⟩ ⟨h1, h2⟩
    (simp -dsimp only [↓z_seq, ↓z_region, ↓z_ops_plain, ↓z_move, ↓evW_tmp, ↓lkW_cons, ↓reduceIte, ↓z_put, Nat.reduceLT, ↓z_binOp, ↓evW_const, ↓constW_int, inR_u64, Int.reduceLE, and_self, ↓z_bn_geq, ↓z_ops_nil, ↓z_seq_nrm, ↓z_cond, ↓z_cnd, ↓z_gdt, ↓z_skip, ↓z_block, Nat.reduceEqDiff, ↓z_bn_rem, ↓z_rem_u64, ne_eq, Int.reduceEq, not_false_eq_true, ↓z_convert, ↓y_ty101, ↓y_ty5, ↓z_cvt_int, ↓z_cv_int, ↓z_cvi_u64_u8, inR_u8, ↓z_bn_add, ↓wrW_u8, ↓z_buildSlice, ↓y_ty27, ↓z_slTy, ↓y_sz5, Nat.mul_one, Nat.reduceLeDiff, maxLen_lit, ↓y_zr5, List.length_cons, List.length_nil, Nat.zero_add, ↓z_repL_s, ↓z_repL_0, ↓z_cat_nil_r, ↓z_bld_cons, ↓z_cl_int, ↓spsW_cons, ↓drW_cons, reduceCtorEq, ↓drW_nil, ↓z_bld_nil, ↓z_allP_cons, ↓z_isP_int, ↓z_allP_nil, ↓z_callb, ↓z_evL_cons, ↓z_evL_nil, ↓z_append, ↓z_nint_sl, ↓y_by5, ↓z_src_slx, ↓z_app_osl, ↓lkoW_cons, List.length_map, ↓z_nmC_bytes, ↓z_room, ↓z_pgo_cons, ↓z_pgc_nm, ↓z_pgo_nil, ↓z_pg_cons, ↓z_mn_slx, ↓z_mn_int, ↓z_mn_osl, ↓z_mn_bool, ↓z_pg_nil, ↓z_so_cons, ↓z_assign, ↓z_bn_quo, ↓z_quo_u64, ↓z_blk_nrm, ↓z_lp_nrm, ↓z_wk, ↓z_wkE_cons, D.int.injEq, true_and, D.osl.injEq, ↓z_wkE_nil, and_true, ↓z_wkO_cons, ↓z_wkO_nil, ↓z_exit, ↓z_seq_ext, ↓z_lp_ext, ↓z_blk_ext, ↓z_ret, ↓z_end_rt, resLW, res1W, ↓z_own_osl, ↓z_allP_app, ↓z_allP_bytes, List.length_append, z_ite]); (try simp only [Int.toNat_natCast, Nat.mul_one, Bool.or_false, Bool.false_or, Bool.or_self, Bool.or_true])
    have hlen : out.length + 1 ≤ (encI v).length := by
      rw [← h1, List.length_append]; have := Lib.uvarint_pos x; simp only; omega
    refine ⟨fun hx => ⟨by omega, by omega, (x / 128, out ++ [(x % 128 + 128).toUInt8]), ⟨?_, by simp only at h2 ⊢; omega⟩, by simp only; omega, ⟨shr7' x, by simp⟩, ?_⟩, fun hx => ⟨by omega, by omega, ?_⟩⟩
    · simp only at h1 ⊢
      rw [← h1, Lib.uvarint_big (x := x) (by omega)]; simp
    · simp only at h2
      rw [List.map_append, List.map_cons, List.map_nil, bD_nat (by omega)]
      simp only [wrap8]
      congr 3; omega
    · simp only at h1
      rw [← h1, Lib.uvarint_small (x := x) (by omega)]
      refine ⟨by simp, ?_⟩
      rw [List.map_append, List.map_cons, List.map_nil, bD_nat (by omega), wrap8]
      congr 3; omega
def encB (s : List UInt8) : List UInt8 := encI s.length ++ s
theorem encB_len {s : List UInt8} (h : s.length ≤ 1000000) : (encB s).length ≤ s.length + 10 := by
  have := encI_len (v := s.length) (by omega) (by omega)
  simp only [encB, List.length_append]; omega

set_option maxRecDepth 100000 in
set_option maxHeartbeats 4000000 in
theorem fn_Bytes (G : Glob) (s : List UInt8) (hs : s.length ≤ 1000000) : FnS G Tryd.prog 54 [.str s] 1 (encB s).length ((encB s).map bD) := by
  refine FnS.mk (c := _) Tryd.func54 rfl rfl Tryd.ntmps54 Tryd.results54 ?_
  (simp -dsimp only [bodyW, List.length_cons, List.length_nil, Nat.zero_add, Nat.reduceLeDiff, wfL, ↓z_seq, ↓z_region, ↓z_ops_plain, ↓z_assign, ↓evW_const, ↓constW_nils, ↓z_put, Nat.reduceLT, ↓z_ops_nil, ↓z_seq_nrm, ↓z_move, ↓evW_tmp, ↓lkW_cons, reduceCtorEq, ↓reduceIte, ↓z_lk_env, ↓z_callb, ↓z_evL_cons, ↓z_evL_nil, ↓z_len, ↓y_ty9, ↓z_ln_str, ↓z_callv, ↓evW_func, ↓z_fun0, ↓z_coeL_cons, ↓z_coe_int, ↓z_coeL_nil, true_and])
  intro hv
  refine call_own (fn_Int G s.length) fun _ => ?_
  have hl := encI_len (v := s.length) (by omega) (by omega)
  (simp -dsimp only [↓z_new, ↓z_nm_nil, Nat.reduceLT, ↓z_pg_cons, ↓z_mn_int, ↓z_mn_str, ↓z_mn_nils, ↓z_pg_env, ↓z_pg_env0, ↓z_put, ↓z_ops_plain, ↓z_move, ↓evW_tmp, ↓lkW_cons, reduceCtorEq, ↓reduceIte, ↓z_callb, ↓z_evL_cons, Nat.reduceEqDiff, ↓z_evL_nil, ↓z_append, ↓y_ty27, ↓z_slTy, ↓y_ty9, ↓z_nint_str, ↓y_sz5, ↓y_by5, ↓y_zr5, List.length_cons, List.length_nil, Nat.zero_add, ↓z_src_str, ↓z_app_osl, ↓lkoW_cons, List.length_map, Nat.mul_one, ↓z_nmC_bytes, ↓z_room, maxLen_lit, ↓z_pgo_cons, ↓z_pgc_nm, ↓z_pgo_nil, ↓z_mn_osl, ↓z_pg_nil, ↓z_so_cons, ↓z_assign, ↓z_ops_nil, ↓z_seq_nrm, ↓z_ret, ↓z_end_rt, resLW, res1W, ↓z_own_osl, ↓z_allP_app, ↓z_allP_bytes, and_self, List.length_append, true_and]); (try simp only [Int.toNat_natCast, Nat.mul_one, Bool.or_false, Bool.false_or, Bool.or_self, Bool.or_true])
  refine ⟨by omega, by omega, by simp [encB], by simp [encB]⟩

set_option maxRecDepth 100000 in
set_option maxHeartbeats 4000000 in
theorem fn_refBytes (G : Glob) (s : List UInt8) (hs : s.length ≤ 1000000) : FnS G Tryd.prog 70 [.str s] 1 (encB s).length ((encB s).map bD) := by
  refine FnS.mk (c := _) Tryd.func70 rfl rfl Tryd.ntmps70 Tryd.results70 ?_
  (simp -dsimp only [bodyW, List.length_cons, List.length_nil, Nat.zero_add, Nat.reduceLeDiff, wfL, ↓z_seq, ↓z_region, ↓z_ops_plain, ↓z_assign, ↓evW_const, ↓constW_nils, ↓z_put, Nat.reduceLT, ↓z_ops_nil, ↓z_seq_nrm, ↓z_move, ↓evW_tmp, ↓lkW_cons, reduceCtorEq, ↓reduceIte, ↓z_lk_env, ↓z_callb, ↓z_evL_cons, ↓z_evL_nil, ↓z_len, ↓y_ty9, ↓z_ln_str, ↓z_callv, ↓evW_func, ↓z_fun0, ↓z_coeL_cons, ↓z_coe_int, ↓z_coeL_nil, true_and])
  intro hv
  refine call_own (fn_refInt G s.length) fun _ => ?_
  have hl := encI_len (v := s.length) (by omega) (by omega)
  (simp -dsimp only [↓z_new, ↓z_nm_nil, Nat.reduceLT, ↓z_pg_cons, ↓z_mn_int, ↓z_mn_str, ↓z_mn_nils, ↓z_pg_env, ↓z_pg_env0, ↓z_put, ↓z_ops_plain, ↓z_move, ↓evW_tmp, ↓lkW_cons, reduceCtorEq, ↓reduceIte, ↓z_callb, ↓z_evL_cons, Nat.reduceEqDiff, ↓z_evL_nil, ↓z_append, ↓y_ty27, ↓z_slTy, ↓y_ty9, ↓z_nint_str, ↓y_sz5, ↓y_by5, ↓y_zr5, List.length_cons, List.length_nil, Nat.zero_add, ↓z_src_str, ↓z_app_osl, ↓lkoW_cons, List.length_map, Nat.mul_one, ↓z_nmC_bytes, ↓z_room, maxLen_lit, ↓z_pgo_cons, ↓z_pgc_nm, ↓z_pgo_nil, ↓z_mn_osl, ↓z_pg_nil, ↓z_so_cons, ↓z_assign, ↓z_ops_nil, ↓z_seq_nrm, ↓z_ret, ↓z_end_rt, resLW, res1W, ↓z_own_osl, ↓z_allP_app, ↓z_allP_bytes, and_self, List.length_append, true_and]); (try simp only [Int.toNat_natCast, Nat.mul_one, Bool.or_false, Bool.false_or, Bool.or_self, Bool.or_true])
  refine ⟨by omega, by omega, by simp [encB], by simp [encB]⟩

theorem encB_ne (s : List UInt8) : encB s ≠ [] := by
  unfold encB encI
  intro h
  have := Lib.uvarint_pos (Lib.zigzag (s.length : Int))
  rw [(List.append_eq_nil_iff.1 h).1] at this
  simp at this
end Go.Abs
end
section
namespace Go.Abs
open Go.Proofs
set_option maxRecDepth 100000 in
set_option maxHeartbeats 8000000 in
theorem fn_Rot (G : Glob) (x n : Nat) (h0 : 0 < n) (h : n < 32) : Fn G Tryd.prog 77 [.int .u32 (x : Int), .int .i64 (-(n : Int))] (.int .u32 ((rr x n : Nat) : Int)) := by
  refine Fn.mk (c := _) Tryd.func77 rfl rfl Tryd.ntmps77 Tryd.results77 ?_
  (simp -dsimp only [bodyW, List.length_cons, List.length_nil, Nat.zero_add, Nat.reduceAdd, Nat.reduceLeDiff, wfL, ↓z_seq, ↓z_region, ↓z_ops_plain, ↓z_assign, ↓evW_const, ↓constW_int, inR_u32, Int.reduceLE, and_self, ↓z_put, Nat.reduceLT, ↓z_ops_nil, ↓z_seq_nrm, ↓z_move, ↓evW_tmp, ↓lkW_cons, Nat.reduceEqDiff, ↓reduceIte, ↓z_lk_env, reduceCtorEq, ↓z_convert, ↓y_ty3, ↓y_ty116, ↓z_cvt_int, ↓z_cv_int, ↓z_cvi_i64_u64, ↓z_binOp, inR_u64, ↓z_bn_and, ↓z_bn_shl, ↓z_bn_sub, ↓wrW_u64, ↓z_bn_shr, ↓z_bn_or, ↓z_ret, ↓z_end_rt, resLW, res1W, ↓z_envF_cons, ↓z_envF_nil, ↓z_coeL_cons, ↓z_coeL_nil, ↓z_pack1, ↓z_coe_int, D.int.injEq, true_and]); (try simp only [Int.toNat_natCast, Nat.mul_one, Bool.or_false, Bool.false_or, Bool.or_self, Bool.or_true])
  intro _ _
  rw [rot_cnt h h0]
  have e : IntKind.u64.wrap (32 - ((32 - n : Nat) : Int)) = ((n : Nat) : Int) := by rw [IntKind.wrap_u64]; omega
  rw [e, u32_shl _ _ (by omega), u32_shr _ _ (by omega), u32_or, oo_comm]
  exact ⟨by omega, by omega, rfl⟩
set_option maxRecDepth 100000 in
set_option maxHeartbeats 8000000 in
theorem fn_rotr (G : Glob) (x n : Nat) (h0 : 0 < n) (h : n < 32) : Fn G Tryd.prog 76 [.int .u32 (x : Int), .int .i64 (n : Int)] (.int .u32 ((rr x n : Nat) : Int)) := by
  refine Fn.mk (c := _) Tryd.func76 rfl rfl Tryd.ntmps76 Tryd.results76 ?_
  (simp -dsimp only [bodyW, List.length_cons, List.length_nil, Nat.zero_add, Nat.reduceAdd, Nat.reduceLeDiff, wfL, ↓z_seq, ↓z_region, ↓z_ops_plain, ↓z_assign, ↓evW_const, ↓constW_int, inR_u32, Int.reduceLE, and_self, ↓z_put, Nat.reduceLT, ↓z_ops_nil, ↓z_seq_nrm, ↓z_region_d, ↓y_mix, true_and])
  intro _ _
  refine rgn_d (by decide +kernel) ?_
  (simp -dsimp only [↓z_drw_move, ↓z_drwS, ↓z_grd_none, ↓z_withE, ↓z_rd_tmp, ↓lkW_cons, reduceCtorEq, ↓reduceIte, ↓z_lk_env, ↓z_rd_nil, ↓z_ap_cons, ↓z_ap_nil, ↓z_or_move, ↓z_move, ↓evW_tmp, and_true, ↓z_exD_all, ↓z_exD_eq, ↓z_put, Nat.reduceLT, ↓z_drwK, Nat.reduceEqDiff, Nat.zero_add, ↓z_drw_binOp, ↓z_or_binOp, ↓z_binOp, ↓z_bn_shr, ↓z_exD_and, ↓z_rd_const, ↓evW_const, ↓constW_int, inR_i64, Int.reduceNeg, Int.reduceLE, and_self, ↓z_bn_sub, ↓wrW_i64, true_and, ↓z_bn_shl, ↓z_bn_or, ↓z_drw_assign, ↓z_or_assign, ↓z_assign, ↓z_drw_nil, ↓z_seq_nrm, ↓z_ret, ↓z_end_rt, resLW, res1W, ↓z_envF_cons, ↓z_envF_nil, ↓z_coeL_cons, ↓z_coeL_nil, ↓z_pack1, ↓z_coe_int, D.int.injEq]); (try simp only [Int.toNat_natCast, Nat.mul_one, Bool.or_false, Bool.false_or, Bool.or_self, Bool.or_true])
  have e : (32 : Int) - (n : Int) = ((32 - n : Nat) : Int) := by omega
  rw [e, u32_shl _ _ (by omega), u32_shr _ _ (by omega), u32_or]
  exact ⟨by omega, by omega, by omega, rfl⟩
set_option maxRecDepth 100000 in
set_option maxHeartbeats 8000000 in
theorem fn_mix (G : Glob) (x i j k : Nat) (hi0 : 0 < i) (hi : i < 32) (hj0 : 0 < j) (hj : j < 32) (hk0 : 0 < k) (hk : k < 32) :
    Fn G Tryd.prog 72 [.int .u32 (x : Int), .int .i64 (i : Int), .int .i64 (j : Int), .int .i64 (k : Int)] (.int .u32 ((mx x i j k : Nat) : Int)) := by
  refine Fn.mk (c := _) Tryd.func72 rfl rfl Tryd.ntmps72 Tryd.results72 ?_
  have z : ∀ n : Nat, (0 : Int) - (n : Int) = -(n : Int) := fun n => by omega
  (simp -dsimp only [bodyW, List.length_cons, List.length_nil, Nat.zero_add, Nat.reduceAdd, Nat.reduceLeDiff, wfL, ↓z_seq, ↓z_region, ↓z_ops_plain, ↓z_assign, ↓evW_const, ↓constW_int, inR_u32, Int.reduceLE, and_self, ↓z_put, Nat.reduceLT, ↓z_ops_nil, ↓z_seq_nrm, ↓z_move, ↓evW_tmp, ↓lkW_cons, reduceCtorEq, ↓reduceIte, ↓z_lk_env, Nat.reduceEqDiff, ↓z_unOp, ↓z_un_neg, ↓wrW_i64, inR_i64, Int.reduceNeg, ↓z_callv, ↓evW_func, ↓z_evL_cons, ↓z_evL_nil, ↓z_fun0, ↓z_coeL_cons, ↓z_coe_int, ↓z_coeL_nil, true_and])
  intro _ _ _ _
  refine ⟨by omega, call_fn ((fn_Rot G x i hi0 hi).inp (by rw [z])) fun _ => ?_⟩
  (simp -dsimp only [↓z_put, Nat.reduceLT, ↓z_ops_plain, ↓z_move, ↓evW_tmp, ↓lkW_cons, reduceCtorEq, ↓reduceIte, ↓z_lk_env, Nat.reduceEqDiff, Nat.zero_add, Nat.reduceAdd, ↓z_unOp, ↓z_un_neg, ↓wrW_i64, inR_i64, Int.reduceNeg, ↓z_callv, ↓evW_func, ↓z_evL_cons, ↓z_evL_nil, ↓z_fun0, ↓z_coeL_cons, ↓z_coe_int, ↓z_coeL_nil, true_and])
  refine ⟨by omega, call_fn ((fn_Rot G x j hj0 hj).inp (by rw [z])) fun _ => ?_⟩
  (simp -dsimp only [↓z_put, Nat.reduceLT, ↓z_ops_plain, ↓z_binOp, ↓evW_tmp, ↓lkW_cons, Nat.reduceEqDiff, ↓reduceIte, ↓z_bn_xor, ↓z_move, reduceCtorEq, ↓z_lk_env, Nat.zero_add, Nat.reduceAdd, ↓z_unOp, ↓z_un_neg, ↓wrW_i64, inR_i64, Int.reduceNeg, ↓z_callv, ↓evW_func, ↓z_evL_cons, ↓z_evL_nil, ↓z_fun0, ↓z_coeL_cons, ↓z_coe_int, ↓z_coeL_nil, true_and])
  refine ⟨by omega, call_fn ((fn_Rot G x k hk0 hk).inp (by rw [z])) fun _ => ?_⟩
  (simp -dsimp only [↓z_put, Nat.reduceLT, ↓z_ops_plain, ↓z_binOp, ↓evW_tmp, ↓lkW_cons, Nat.reduceEqDiff, ↓reduceIte, ↓z_bn_xor, ↓z_assign, ↓z_ops_nil, ↓z_seq_nrm, ↓z_ret, ↓z_end_rt, resLW, res1W, u32_xor, ↓z_envF_cons, Nat.zero_add, Nat.reduceAdd, ↓z_envF_nil, ↓z_coeL_cons, ↓z_coeL_nil, ↓z_pack1, ↓z_coe_int, D.int.injEq, true_and]); (try simp only [Int.toNat_natCast, Nat.mul_one, Bool.or_false, Bool.false_or, Bool.or_self, Bool.or_true])
  rfl
end Go.Abs
end
section
namespace Go.Abs
open Go.Proofs
/-- The 64 words while word t is being made: what is known, the word so far, zeros. -/
def wL (b : List UInt8) (t x : Nat) : List Nat := sch b t ++ x :: List.replicate (63 - t) 0
theorem wL_len {b : List UInt8} {t x : Nat} (h : t < 64) : (wL b t x).length = 64 := by simp [wL, sch_len]; omega
theorem wL_at {b : List UInt8} {t x : Nat} (h : t < (wL b t x).length) : (wL b t x)[t] = x := by
  simp [wL, List.getElem_append_right, sch_len]
theorem wL_lo {b : List UInt8} {t x i : Nat} (h : i < t) (h2 : i < (wL b t x).length) : (wL b t x)[i] = (sch b t).getD i 0 := by
  rw [List.getD_eq_getElem?_getD, List.getElem?_eq_getElem (by rw [sch_len]; exact h)]
  simp only [wL, Option.getD_some]
  rw [List.getElem_append_left]
theorem wL_set {b : List UInt8} {t x y : Nat} (h : t < 64) : (wI (wL b t x)).take t ++ [(y : Int)] ++ (wI (wL b t x)).drop (t + 1) = wI (wL b t y) := by
  have hl := sch_len b t
  unfold wI wL
  rw [List.map_append, List.map_append, List.take_left' (by rw [List.length_map, hl]), List.drop_append, List.drop_of_length_le (by rw [List.length_map, hl]; omega), List.length_map, hl]
  simp
theorem sl8 (x : Nat) : shlI .u32 (x : Int) 8 = ((sL x 8 : Nat) : Int) := u32_shl x 8 (by decide)
theorem sh3 (x : Nat) : shrI .u32 (x : Int) 3 = ((sR x 3 : Nat) : Int) := u32_shr x 3 (by decide)
theorem sh10 (x : Nat) : shrI .u32 (x : Int) 10 = ((sR x 10 : Nat) : Int) := u32_shr x 10 (by decide)
def wK (b : List UInt8) (t : Nat) : List Nat := sch b t ++ List.replicate (64 - t) 0
theorem wK_lt {b : List UInt8} {t : Nat} (h : t < 64) : wK b t = wL b t 0 := by
  unfold wK wL
  rw [show 64 - t = (63 - t) + 1 by omega, List.replicate_succ]
theorem wL_K {b : List UInt8} {t : Nat} (h : t < 64) : wL b t (wN b (sch b t) t) = wK b (t + 1) := by
  unfold wK wL
  rw [show 64 - (t + 1) = 63 - t by omega, sch]; simp
theorem wK_end {b : List UInt8} : wK b 64 = sch b 64 := by simp [wK]
theorem wI_wL {b : List UInt8} {t x : Nat} (h : t < 64) : (wI (wL b t x)).length = 64 := by rw [wI_len, wL_len h]
theorem wI_at {b : List UInt8} {t x : Nat} (h : t < (wI (wL b t x)).length) : (wI (wL b t x))[t] = (x : Int) := by rw [wI_get, wL_at]
theorem wI_lo {b : List UInt8} {t x i : Nat} (h : i < t) (h2 : i < (wI (wL b t x)).length) : (wI (wL b t x))[i] = (((sch b t).getD i 0 : Nat) : Int) := by rw [wI_get, wL_lo h]
set_option maxRecDepth 100000 in
set_option maxHeartbeats 8000000 in
theorem fn_schedule (G : Glob) (b : List UInt8) (hb : b.length = 64) : Fn G Tryd.prog 71 [.sl 1 64 (b.map bD)] (.agg ((wI (sch b 64)).map (D.int .u32))) := by
  refine Fn.mk (c := _) Tryd.func71 rfl rfl Tryd.ntmps71 Tryd.results71 ?_
  (simp -dsimp only [bodyW, List.length_cons, List.length_nil, Nat.zero_add, Nat.reduceLeDiff, wfL, ↓z_seq, ↓z_region, ↓z_ops_plain, ↓z_alloc, ↓y_zr121, ↓z_new, ↓z_nm_nil, Nat.reduceLT, ↓z_pg_env, ↓z_mn_sl, ↓z_pg_env0, ↓z_put, ↓z_ops_nil, ↓z_seq_nrm, ↓z_nm_cons, ↓z_nmC_cons, ↓z_mn'_int, ↓z_nmC_nil, and_self, ↓z_pg_cons, ↓z_mn_ptr, reduceCtorEq, ↓reduceIte, ↓z_pg_nil, ↓z_move, ↓evW_const, ↓constW_int, inR_i64, Int.reduceNeg, Int.reduceLE, ↓z_block, ↓z_loop, true_and])
  intro _
  refine hold_intro ⟨[], Nat, fun t => ⟨79, 2, [(11, .int .i64 t), (0, .sl 1 64 (b.map bD)), (2, .ptr 0 0), (3, .ptr 1 0)], [(1, (wI (wK b t)).map (D.int .u32)), (0, (wI (List.replicate 64 0)).map (D.int .u32))]⟩, fun t => t ≤ 64, fun t => 64 - t, ?_, ?_⟩
  · (simp -dsimp only [↓z_ad_nil, ↓z_wk, ↓z_wkE_cons, ↓lkW_cons, ↓reduceIte, D.int.injEq, true_and, reduceCtorEq, Nat.reduceEqDiff, Nat.zero_add, ↓z_wkE_nil, and_self, and_true, ↓z_wkO_cons, ↓lkoW_cons, ↓z_wkO_nil]); (try simp only [Int.toNat_natCast, Nat.mul_one, Bool.or_false, Bool.false_or, Bool.or_self, Bool.or_true])
    exact ⟨0, by omega, rfl, rfl, rfl⟩
  rintro t ht
  by_cases h64 : t < 64
  · have e := wK_lt (b := b) h64
    have hl := wI_wL (b := b) (x := 0) h64
    (simp -dsimp only [↓z_seq, ↓z_region, ↓z_ops_plain, ↓z_binOp, ↓evW_tmp, ↓lkW_cons, ↓reduceIte, ↓evW_const, ↓constW_int, inR_i64, Int.reduceNeg, Int.reduceLE, and_self, ↓z_bn_lss, ↓z_put, Nat.reduceLT, ↓z_ops_nil, ↓z_seq_nrm, ↓z_cond, ↓z_cnd, ↓z_gdt, ↓z_skip, ↓z_block, ↓z_move, Nat.reduceEqDiff, ↓z_assign, reduceCtorEq, ↓z_bn_mul, ↓wrW_i64, ↓z_bn_add, ↓z_slice, ↓z_evO_some, ↓z_bo_some, ↓z_evO_none, ↓z_bo_none, ↓y_ty27, ↓z_seTy_sl, ↓y_sz5, ↓z_slc_sl_lh, ↓z_sub_map, ↓z_callb, ↓z_evL_cons, ↓z_evL_nil, ↓z_len, ↓z_ln_sl, ↓z_loop, true_and, ↓z_region_d, ↓y_mix, z_ite, ↓z_exit, ↓z_seq_ext, ↓z_lp_ext, ↓z_blk_ext, ↓z_load, ↓y_ty121, ↓y_sz121, ↓z_agTy_arr, ↓loadW_ptr, ↓lkoW_cons, ↓z_rd_t, Nat.zero_add, e, List.length_map, hl, Nat.reduceLeDiff, ↓z_store, ↓z_cl_oag, List.length_take, List.length_drop, Nat.reduceSub, ↓z_store_ptr, ↓z_sps_map, ↓z_so_cons, ↓z_put_none, ↓z_ret, ↓z_end_rt, resLW, res1W, ↓z_coeL_cons, ↓z_coeL_nil, ↓z_pack1, List.length_append, ↓z_coe_oag, D.agg.injEq])
    refine ⟨fun _ => ⟨fun h16 => ?_, fun h16 => ?_⟩, fun h => by omega⟩
    · have e1 : (4 * (t : Int) + 4).toNat - (4 * (t : Int)).toNat = 4 := by omega
      have e2 : (4 * (t : Int)).toNat = 4 * t := by omega
      rw [e1, e2]
      refine ⟨by omega, by omega, by omega, by omega, by omega, by omega, hold_intro ⟨[], Nat, fun j => ⟨79, 2, [(24, .int .i64 j), (23, .int .i64 (4 : Nat)), (22, .sl 1 4 (((b.drop (4 * t)).take 4).map bD)), (4, .int .i64 t), (11, .int .i64 t), (0, .sl 1 64 (b.map bD)), (2, .ptr 0 0), (3, .ptr 1 0)], [(1, (wI (wL b t (wP b t j))).map (D.int .u32)), (0, (wI (List.replicate 64 0)).map (D.int .u32))]⟩, fun j => j ≤ 4, fun j => 4 - j, ?_, ?_⟩⟩
      · (simp -dsimp only [↓z_ad_nil, ↓z_wk, ↓z_wkE_cons, ↓lkW_cons, ↓reduceIte, D.int.injEq, true_and, Nat.reduceEqDiff, Nat.mul_one, reduceCtorEq, ↓z_wkE_nil, and_self, and_true, ↓z_wkO_cons, ↓lkoW_cons, ↓z_wkO_nil]); (try simp only [Int.toNat_natCast, Nat.mul_one, Bool.or_false, Bool.false_or, Bool.or_self, Bool.or_true])
        exact ⟨0, by omega, rfl, by rw [e]; rfl⟩
      rintro j hj
      have hl2 := wI_wL (b := b) (x := wP b t j) h64
      (simp -dsimp only [↓z_seq, ↓z_region, ↓z_ops_plain, ↓z_binOp, ↓evW_tmp, ↓lkW_cons, ↓reduceIte, Nat.reduceEqDiff, ↓z_bn_lss, ↓z_put, Nat.reduceLT, ↓z_ops_nil, ↓z_seq_nrm, ↓z_cond, ↓z_cnd, ↓z_gdt, ↓z_skip, ↓z_block, ↓z_indexAddr, ↓y_ty27, ↓z_elTy_sl, ↓y_sz5, ↓z_ix_sl, ↓z_load, ↓y_ty5, ↓z_agTy_int, ↓loadW_rop, ↓z_rd_f, ↓z_nth_bytes, ↓z_assign, ↓z_move, reduceCtorEq, ↓y_ty121, ↓z_elTy_arr, ↓y_sz98, ↓z_ix_ptr, ↓y_ty98, ↓loadW_ptr, ↓lkoW_cons, ↓z_nth_int, ↓evW_const, ↓constW_int, inR_u64, Int.reduceLE, and_self, ↓z_bn_shl, ↓z_convert, ↓z_cvt_int, ↓z_cv_int, ↓z_cvi_u8_u32, ↓z_bn_or, ↓z_store, ↓z_cl_int, Nat.mul_one, Nat.zero_add, List.length_cons, List.length_nil, ↓z_store_ptr, List.length_map, hl2, Nat.reduceLeDiff, ↓z_sps_int, ↓z_so_cons, ↓z_put_none, ↓z_blk_nrm, inR_i64, Int.reduceNeg, ↓z_bn_add, ↓wrW_i64, ↓z_lp_nrm, ↓z_wk, ↓z_wkE_cons, D.int.injEq, true_and, ↓z_wkE_nil, and_true, ↓z_wkO_cons, ↓z_wkO_nil, List.length_take, List.length_drop, ↓z_exit, ↓z_seq_ext, ↓z_lp_ext, ↓z_blk_ext, z_ite]); (try simp only [Int.toNat_natCast])
      refine ⟨fun h => ⟨by omega, by omega, by omega, by omega, by omega, h64, by omega, by omega, by omega, by omega, j + 1, by omega, by omega, by omega, ?_⟩, fun h => ⟨by omega, t + 1, by omega, by omega, by omega, ?_⟩⟩
      · rw [wI_at, sl8, u32_or, List.getElem_take, List.getElem_drop, ← wP_s (by omega), wL_set h64]
      · have ej : j = 4 := by omega
        rw [ej, ← wL_K h64, show wN b (sch b t) t = wP b t 4 from if_pos (by omega)]
    · refine rgn_d (by decide +kernel) ?_
      have e1 : ((t : Int) - 15).toNat = t - 15 := by omega
      have e2 : ((t : Int) - 2).toNat = t - 2 := by omega
      have e3 : ((t : Int) - 16).toNat = t - 16 := by omega
      have e4 : ((t : Int) - 7).toNat = t - 7 := by omega
      have eN : wN b (sch b t) t = ad (ad (ad ((sch b t).getD (t - 16) 0) (sg0 ((sch b t).getD (t - 15) 0))) ((sch b t).getD (t - 7) 0)) (sg1 ((sch b t).getD (t - 2) 0)) := if_neg (by omega)
      obtain ⟨X, hX⟩ : ∃ X, (sch b t).getD (t - 15) 0 = X := ⟨_, rfl⟩
      obtain ⟨Y, hY⟩ : ∃ X, (sch b t).getD (t - 2) 0 = X := ⟨_, rfl⟩
      obtain ⟨Z, hZ⟩ : ∃ X, (sch b t).getD (t - 16) 0 = X := ⟨_, rfl⟩
      obtain ⟨U, hU⟩ : ∃ X, (sch b t).getD (t - 7) 0 = X := ⟨_, rfl⟩
      have q1 : ∀ h, (wI (wL b t 0))[t - 15]'h = (X : Int) := fun h => by rw [wI_lo (by omega), hX]
      have q2 : ∀ h, (wI (wL b t 0))[t - 2]'h = (Y : Int) := fun h => by rw [wI_lo (by omega), hY]
      have q3 : ∀ h, (wI (wL b t 0))[t - 16]'h = (Z : Int) := fun h => by rw [wI_lo (by omega), hZ]
      have q4 : ∀ h, (wI (wL b t 0))[t - 7]'h = (U : Int) := fun h => by rw [wI_lo (by omega), hU]
      rw [hX, hY, hZ, hU] at eN
      have lt2 : ∀ i, t - i < (wI (wL b t 0)).length := fun i => by rw [hl]; omega
      (simp -dsimp only [↓z_drw_move, ↓z_drwS, ↓z_grd_none, ↓z_withE, ↓z_rd_tmp, ↓lkW_cons, Nat.reduceEqDiff, ↓reduceIte, ↓z_rd_nil, ↓z_ap_cons, ↓z_ap_nil, ↓z_or_move, ↓z_move, ↓evW_tmp, e, and_true, ↓z_exD_all, ↓z_exD_eq, ↓z_put, Nat.reduceLT, ↓z_drwK, ↓z_drw_binOp, ↓z_rd_const, ↓z_or_binOp, ↓z_binOp, ↓evW_const, ↓constW_int, inR_i64, Int.reduceNeg, Int.reduceLE, and_self, ↓z_bn_sub, ↓wrW_i64, true_and, ↓z_exD_and, ↓z_drw_indexAddr, reduceCtorEq, ↓z_or_indexAddr, ↓z_indexAddr, ↓y_ty121, ↓z_elTy_arr, ↓y_sz98, ↓z_ix_ptr, e1, Nat.mul_one, Nat.zero_add, ↓z_drw_load, ↓z_or_load, ↓z_load, ↓y_ty98, ↓z_agTy_int, ↓loadW_ptr, ↓lkoW_cons, ↓z_rd_f, ↓z_nth_int, q1, ↓z_exD_ex, e2, q2, ↓z_drw_assign, ↓z_or_assign, ↓z_assign, ↓z_drw_nil, ↓z_seq_nrm, ↓z_seq, ↓z_region, ↓z_ops_plain, ↓z_callv, ↓evW_func, ↓z_evL_cons, ↓z_evL_nil, ↓z_fun0, ↓z_coeL_cons, ↓z_coe_int, ↓z_coeL_nil])
      refine ⟨by omega, by omega, by omega, lt2 _, by omega, by omega, by omega, lt2 _, call_fn ((fn_Rot G X 7 (by decide) (by decide)).inp rfl) fun _ => ?_⟩
      (simp -dsimp only [↓z_put, Nat.reduceLT, ↓z_ops_plain, ↓z_move, ↓evW_tmp, ↓lkW_cons, Nat.reduceEqDiff, ↓reduceIte, ↓z_callv, ↓evW_func, ↓z_evL_cons, ↓evW_const, ↓constW_int, Int.reduceNeg, inR_i64, Int.reduceLE, and_self, ↓z_evL_nil, ↓z_fun0, ↓z_coeL_cons, ↓z_coe_int, ↓z_coeL_nil, true_and]); (try simp only [Int.toNat_natCast, Nat.mul_one, Bool.or_false, Bool.false_or, Bool.or_self, Bool.or_true])
      refine call_fn ((fn_Rot G X 18 (by decide) (by decide)).inp rfl) fun _ => ?_
      (simp -dsimp only [↓z_put, Nat.reduceLT, ↓z_ops_plain, ↓z_binOp, ↓evW_tmp, ↓lkW_cons, Nat.reduceEqDiff, ↓reduceIte, ↓z_bn_xor, ↓z_move, ↓evW_const, ↓constW_int, inR_u64, Int.reduceLE, and_self, ↓z_bn_shr, ↓z_assign, ↓z_ops_nil, ↓z_seq_nrm, ↓z_seq, ↓z_region, ↓z_callv, ↓evW_func, ↓z_evL_cons, Int.reduceNeg, inR_i64, ↓z_evL_nil, ↓z_fun0, ↓z_coeL_cons, ↓z_coe_int, ↓z_coeL_nil, true_and]); (try simp only [Int.toNat_natCast, Nat.mul_one, Bool.or_false, Bool.false_or, Bool.or_self, Bool.or_true])
      refine call_fn ((fn_Rot G Y 17 (by decide) (by decide)).inp rfl) fun _ => ?_
      (simp -dsimp only [↓z_put, Nat.reduceLT, ↓z_ops_plain, ↓z_move, ↓evW_tmp, ↓lkW_cons, Nat.reduceEqDiff, ↓reduceIte, ↓z_callv, ↓evW_func, ↓z_evL_cons, ↓evW_const, ↓constW_int, Int.reduceNeg, inR_i64, Int.reduceLE, and_self, ↓z_evL_nil, ↓z_fun0, ↓z_coeL_cons, ↓z_coe_int, ↓z_coeL_nil, true_and]); (try simp only [Int.toNat_natCast, Nat.mul_one, Bool.or_false, Bool.false_or, Bool.or_self, Bool.or_true])
      refine call_fn ((fn_Rot G Y 19 (by decide) (by decide)).inp rfl) fun _ => ?_
      (simp -dsimp only [↓z_put, Nat.reduceLT, ↓z_ops_plain, ↓z_binOp, ↓evW_tmp, ↓lkW_cons, Nat.reduceEqDiff, ↓reduceIte, ↓z_bn_xor, ↓z_move, ↓evW_const, ↓constW_int, inR_u64, Int.reduceLE, and_self, ↓z_bn_shr, ↓z_assign, ↓z_ops_nil, ↓z_seq_nrm, ↓z_region_d, ↓y_mix, true_and]); (try simp only [Int.toNat_natCast, Nat.mul_one, Bool.or_false, Bool.false_or, Bool.or_self, Bool.or_true])
      refine rgn_d (by decide +kernel) ?_
      (simp -dsimp only [↓z_drw_move, ↓z_drwS, ↓z_grd_none, ↓z_withE, ↓z_rd_tmp, ↓lkW_cons, Nat.reduceEqDiff, ↓reduceIte, ↓z_rd_nil, ↓z_ap_cons, ↓z_ap_nil, ↓z_or_move, ↓z_move, ↓evW_tmp, e, and_true, ↓z_exD_all, ↓z_exD_eq, ↓z_put, Nat.reduceLT, ↓z_drwK, ↓z_drw_binOp, ↓z_rd_const, ↓z_or_binOp, ↓z_binOp, ↓evW_const, ↓constW_int, inR_i64, Int.reduceNeg, Int.reduceLE, and_self, ↓z_bn_sub, ↓wrW_i64, true_and, ↓z_exD_and, ↓z_drw_indexAddr, reduceCtorEq, ↓z_or_indexAddr, ↓z_indexAddr, ↓y_ty121, ↓z_elTy_arr, ↓y_sz98, ↓z_ix_ptr, e3, Nat.mul_one, Nat.zero_add, ↓z_drw_load, ↓z_or_load, ↓z_load, ↓y_ty98, ↓z_agTy_int, ↓loadW_ptr, ↓lkoW_cons, ↓z_rd_f, ↓z_nth_int, q3, hl, ↓z_exD_ex, ↓z_bn_add, ↓wrW_u32, e4, q4, ↓z_drw_store, ↓z_ops_plain, ↓z_store, ↓z_cl_int, List.length_cons, List.length_nil, ↓z_store_ptr, List.length_map, Nat.reduceLeDiff, ↓z_sps_int, ↓z_so_cons, ↓z_put_none, ↓z_ops_nil, ↓z_blk_nrm, ↓z_seq_nrm, ↓z_region, ↓z_lp_nrm, ↓z_wk, ↓z_wkE_cons, D.int.injEq, ↓z_wkE_nil, ↓z_wkO_cons, ↓z_wkO_nil]); (try simp only [Int.toNat_natCast])
      simp only [u32_xor, sh3, sh10, u32_add]
      refine ⟨by omega, by omega, by omega, by omega, by omega, by omega, by omega, by omega, by omega, by omega, by omega, by omega, t + 1, by omega, by omega, by omega, ?_⟩
      show List.map (D.int .u32) (List.take t (wI (wL b t 0)) ++ [((ad (ad (ad Z (sg0 X)) U) (sg1 Y) : Nat) : Int)] ++ List.drop (t + 1) (wI (wL b t 0))) = _
      rw [← eN, wL_set h64, wL_K h64]
  · have e : t = 64 := by omega
    subst e
    (simp -dsimp only [↓z_seq, ↓z_region, ↓z_ops_plain, ↓z_binOp, ↓evW_tmp, ↓lkW_cons, ↓reduceIte, ↓evW_const, ↓constW_int, inR_i64, Int.reduceNeg, Int.reduceLE, and_self, ↓z_bn_lss, ↓z_put, Nat.reduceLT, ↓z_ops_nil, ↓z_seq_nrm, ↓z_cond, ↓z_cnd, ↓z_gdt, ↓z_skip, ↓z_block, ↓z_move, Nat.reduceEqDiff, ↓z_assign, reduceCtorEq, ↓z_bn_mul, ↓wrW_i64, ↓z_bn_add, ↓z_slice, ↓z_evO_some, ↓z_bo_some, ↓z_evO_none, ↓z_bo_none, ↓y_ty27, ↓z_seTy_sl, ↓y_sz5, ↓z_slc_sl_lh, ↓z_sub_map, ↓z_callb, ↓z_evL_cons, ↓z_evL_nil, ↓z_len, ↓z_ln_sl, ↓z_loop, true_and, ↓z_region_d, ↓y_mix, z_ite, ↓z_exit, ↓z_seq_ext, ↓z_lp_ext, ↓z_blk_ext, ↓z_load, ↓y_ty121, ↓y_sz121, ↓z_agTy_arr, ↓loadW_ptr, ↓lkoW_cons, ↓z_rd_t, Nat.zero_add, List.length_map, ↓z_store, ↓z_cl_oag, List.length_take, List.length_drop, ↓z_store_ptr, ↓z_sps_map, ↓z_so_cons, ↓z_put_none, ↓z_ret, ↓z_end_rt, resLW, res1W, ↓z_coeL_cons, ↓z_coeL_nil, ↓z_pack1, List.length_append, ↓z_coe_oag, D.agg.injEq])
    refine ⟨fun h => absurd h (by decide), fun _ => ?_⟩
    have hz : (wI (sch b 64)).length = 64 := by rw [wI_len, sch_len]
    have hr : (wI (List.replicate 64 0)).length = 64 := rfl
    have hW : List.take 64 (wI (sch b 64)) = wI (sch b 64) := List.take_of_length_le (by omega)
    have hD : List.drop 64 (wI (List.replicate 64 0)) = [] := rfl
    (simp -dsimp only [wK_end, hz, Nat.reduceLeDiff, Nat.reduceSub, hr, List.drop_zero, hW, List.take_zero, List.nil_append, hD, List.append_nil, coe_int, and_true, true_and]); (try simp only [Int.toNat_natCast, Nat.mul_one, Bool.or_false, Bool.false_or, Bool.or_self, Bool.or_true])
    exact ⟨rfl, by decide⟩
set_option maxRecDepth 100000 in
/-- The first word, as the reference puts it together. -/
theorem wP_ref {b : List UInt8} {t : Nat} (h : 4 * t + 3 < b.length) : oo (oo (oo (sL b[4 * t].toNat 24) (sL b[4 * t + 1].toNat 16)) (sL b[4 * t + 2].toNat 8)) b[4 * t + 3].toNat = wP b t 4 := by
  rw [wP_s (by omega), wP_s (by omega), wP_s (by omega), wP_s (by omega)]
  have e0 : wP b t 0 = 0 := by simp [wP]
  rw [e0]
  simp only [Nat.add_zero]
  have l0 := b[4 * t].toNat_lt
  have l1 := b[4 * t + 1].toNat_lt
  have l2 := b[4 * t + 2].toNat_lt
  have l3 := b[4 * t + 3].toNat_lt
  generalize b[4 * t].toNat = x0 at *
  generalize b[4 * t + 1].toNat = x1 at *
  generalize b[4 * t + 2].toNat = x2 at *
  generalize b[4 * t + 3].toNat = x3 at *
  have s : ∀ a i : Nat, a <<< i = a * 2 ^ i := Nat.shiftLeft_eq
  have sLm : ∀ a i : Nat, a * 2 ^ i < 4294967296 → sL a i = a <<< i := fun a i h => by unfold sL; rw [Nat.mod_eq_of_lt (by rw [s]; exact h)]
  have ooS : ∀ a c i : Nat, c < 2 ^ i → a * 2 ^ i + c < 4294967296 → oo (a <<< i) c = a * 2 ^ i + c := fun a c i hc h => by
    unfold oo; rw [← Nat.shiftLeft_add_eq_or_of_lt hc, s, Nat.mod_eq_of_lt h]
  have a1 : oo (sL 0 8) x0 = x0 := by
    rw [sLm 0 8 (by omega), ooS 0 x0 8 (by omega) (by omega)]; omega
  have a2 : oo (sL x0 8) x1 = x0 * 256 + x1 := by
    rw [sLm _ _ (by omega), ooS _ _ _ (by omega) (by omega)]
  have a3 : oo (sL (x0 * 256 + x1) 8) x2 = (x0 * 256 + x1) * 256 + x2 := by
    rw [sLm _ _ (by omega), ooS _ _ _ (by omega) (by omega)]
  have a4 : oo (sL ((x0 * 256 + x1) * 256 + x2) 8) x3 = ((x0 * 256 + x1) * 256 + x2) * 256 + x3 := by
    rw [sLm _ _ (by omega), ooS _ _ _ (by omega) (by omega)]
  have b1 : oo (sL x0 24) (sL x1 16) = (x0 * 256 + x1) <<< 16 := by
    rw [sLm x0 24 (by omega), sLm x1 16 (by omega), ooS x0 (x1 <<< 16) 24 (by rw [s]; omega) (by rw [s]; omega), s, s]; omega
  have b2 : oo ((x0 * 256 + x1) <<< 16) (sL x2 8) = ((x0 * 256 + x1) * 256 + x2) <<< 8 := by
    rw [sLm x2 8 (by omega), ooS _ (x2 <<< 8) 16 (by rw [s]; omega) (by rw [s]; omega), s, s]; omega
  have b3 : oo (((x0 * 256 + x1) * 256 + x2) <<< 8) x3 = ((x0 * 256 + x1) * 256 + x2) * 256 + x3 := by
    rw [ooS _ _ _ (by omega) (by omega)]
  rw [a1, a2, a3, a4, b1, b2, b3]
theorem sl16 (x : Nat) : shlI .u32 (x : Int) 16 = ((sL x 16 : Nat) : Int) := u32_shl x 16 (by decide)
theorem sl24 (x : Nat) : shlI .u32 (x : Int) 24 = ((sL x 24 : Nat) : Int) := u32_shl x 24 (by decide)
set_option maxRecDepth 100000 in
set_option maxHeartbeats 8000000 in
theorem fn_words (G : Glob) (b : List UInt8) (hb : b.length = 64) : Fn G Tryd.prog 75 [.sl 1 64 (b.map bD)] (.agg ((wI (sch b 64)).map (D.int .u32))) := by
  refine Fn.mk (c := _) Tryd.func75 rfl rfl Tryd.ntmps75 Tryd.results75 ?_
  (simp -dsimp only [bodyW, List.length_cons, List.length_nil, Nat.zero_add, Nat.reduceLeDiff, wfL, ↓z_seq, ↓z_region, ↓z_ops_plain, ↓z_alloc, ↓y_zr121, ↓z_new, ↓z_nm_nil, Nat.reduceLT, ↓z_pg_env, ↓z_mn_sl, ↓z_pg_env0, ↓z_put, ↓z_ops_nil, ↓z_seq_nrm, ↓z_nm_cons, ↓z_nmC_cons, ↓z_mn'_int, ↓z_nmC_nil, and_self, ↓z_pg_cons, ↓z_mn_ptr, reduceCtorEq, ↓reduceIte, ↓z_pg_nil, ↓z_assign, ↓evW_const, ↓constW_int, inR_i64, Int.reduceNeg, Int.reduceLE, ↓z_block, ↓z_loop, true_and])
  intro _
  refine hold_intro ⟨[], Nat, fun t => ⟨101, 2, [(4, .int .i64 t), (0, .sl 1 64 (b.map bD)), (2, .ptr 0 0), (3, .ptr 1 0)], [(1, (wI (wK b t)).map (D.int .u32)), (0, (wI (List.replicate 64 0)).map (D.int .u32))]⟩, fun t => t ≤ 16, fun t => 16 - t, ?_, ?_⟩
  · (simp -dsimp only [↓z_ad_nil, ↓z_wk, ↓z_wkE_cons, ↓lkW_cons, ↓reduceIte, D.int.injEq, true_and, reduceCtorEq, Nat.reduceEqDiff, Nat.zero_add, ↓z_wkE_nil, and_self, and_true, ↓z_wkO_cons, ↓lkoW_cons, ↓z_wkO_nil]); (try simp only [Int.toNat_natCast, Nat.mul_one, Bool.or_false, Bool.false_or, Bool.or_self, Bool.or_true])
    exact ⟨0, by omega, rfl, rfl, rfl⟩
  rintro t ht
  have h64 : t < 64 := by omega
  have e := wK_lt (b := b) h64
  have hl := wI_wL (b := b) (x := 0) h64
  have e1 : (4 * (t : Int)).toNat = 4 * t := by omega
  have e2 : (4 * (t : Int) + 1).toNat = 4 * t + 1 := by omega
  have e3 : (4 * (t : Int) + 2).toNat = 4 * t + 2 := by omega
  have e4 : (4 * (t : Int) + 3).toNat = 4 * t + 3 := by omega
  (simp -dsimp only [↓z_seq, ↓z_region, ↓z_ops_plain, ↓z_move, ↓evW_tmp, ↓lkW_cons, ↓reduceIte, ↓z_put, Nat.reduceLT, ↓z_binOp, ↓evW_const, ↓constW_int, inR_i64, Int.reduceNeg, Int.reduceLE, and_self, ↓z_bn_lss, ↓z_ops_nil, ↓z_seq_nrm, ↓z_cond, ↓z_cnd, ↓z_gdt, ↓z_skip, ↓z_block, ↓z_region_d, ↓y_mix, true_and, ↓z_exit, ↓z_seq_ext, ↓z_lp_ext, ↓z_blk_ext, ↓z_assign, ↓z_loop, z_ite])
  refine ⟨fun h => rgn_d (by decide +kernel) ?_, fun h => ?_⟩
  · (simp -dsimp only [↓z_drw_move, ↓z_drwS, ↓z_grd_none, ↓z_withE, ↓z_rd_tmp, ↓lkW_cons, Nat.reduceEqDiff, ↓reduceIte, ↓z_rd_nil, ↓z_ap_cons, ↓z_ap_nil, ↓z_or_move, ↓z_move, ↓evW_tmp, e, and_true, ↓z_exD_all, ↓z_exD_eq, ↓z_put, Nat.reduceLT, ↓z_drwK, reduceCtorEq, ↓z_drw_binOp, ↓z_rd_const, ↓z_or_binOp, ↓z_binOp, ↓evW_const, ↓constW_int, inR_i64, Int.reduceNeg, Int.reduceLE, and_self, ↓z_bn_mul, ↓wrW_i64, true_and, ↓z_exD_and, ↓z_drw_indexAddr, ↓z_or_indexAddr, ↓z_indexAddr, ↓y_ty27, ↓z_elTy_sl, ↓y_sz5, ↓z_ix_sl, e1, Nat.mul_one, ↓z_drw_load, ↓z_or_load, ↓z_load, ↓y_ty5, ↓z_agTy_int, ↓loadW_rop, ↓z_rd_f, ↓z_nth_bytes, ↓z_exD_ex, ↓z_drw_convert, ↓z_or_convert, ↓y_ty98, ↓z_cvR_int, ↓z_convert, ↓z_cvt_int, ↓z_cv_int, ↓z_cvi_u8_u32, inR_u64, ↓z_bn_shl, ↓z_bn_add, e2, ↓z_bn_or, e3, e4, ↓y_ty121, ↓z_elTy_arr, ↓y_sz98, ↓z_ix_ptr, Nat.zero_add, ↓z_drw_store, ↓z_ops_plain, ↓z_store, ↓z_cl_int, List.length_cons, List.length_nil, ↓z_store_ptr, ↓lkoW_cons, List.length_map, hl, Nat.reduceLeDiff, ↓z_sps_int, ↓z_so_cons, ↓z_put_none, ↓z_ops_nil, ↓z_blk_nrm, ↓z_seq_nrm, ↓z_region, ↓z_assign, ↓z_lp_nrm, ↓z_wk, ↓z_wkE_cons, D.int.injEq, ↓z_wkE_nil, ↓z_wkO_cons, ↓z_wkO_nil]); (try simp only [Int.toNat_natCast])
    refine ⟨by omega, by omega, by omega, by omega, by omega, by omega, by omega, by omega, by omega, by omega, by omega, by omega, by omega, by omega, by omega, by omega, by omega, by omega, by omega, by omega, by omega, by omega, by omega, t + 1, by omega, by omega, by omega, ?_⟩
    rw [sl24, sl16, sl8, u32_or, u32_or, u32_or, wP_ref (by omega), wL_set h64, ← wL_K h64, show wN b (sch b t) t = wP b t 4 from if_pos (by omega)]
  have et : t = 16 := by omega
  subst et
  refine hold_intro ⟨[], Nat, fun t => ⟨101, 2, [(5, .int .i64 t), (0, .sl 1 64 (b.map bD)), (2, .ptr 0 0), (3, .ptr 1 0)], [(1, (wI (wK b t)).map (D.int .u32)), (0, (wI (List.replicate 64 0)).map (D.int .u32))]⟩, fun t => 16 ≤ t ∧ t ≤ 64, fun t => 64 - t, ?_, ?_⟩
  · (simp -dsimp only [↓z_ad_nil, ↓z_wk, ↓z_wkE_cons, ↓lkW_cons, ↓reduceIte, D.int.injEq, true_and, reduceCtorEq, Nat.reduceEqDiff, ↓z_wkE_nil, and_self, and_true, ↓z_wkO_cons, ↓lkoW_cons, ↓z_wkO_nil]); (try simp only [Int.toNat_natCast, Nat.mul_one, Bool.or_false, Bool.false_or, Bool.or_self, Bool.or_true])
    exact ⟨16, ⟨by omega, by omega⟩, rfl, rfl⟩
  rintro t ⟨h16, ht2⟩
  by_cases h64 : t < 64
  · have e := wK_lt (b := b) h64
    have hl := wI_wL (b := b) (x := 0) h64
    (simp -dsimp only [↓z_seq, ↓z_region, ↓z_ops_plain, ↓z_move, ↓evW_tmp, ↓lkW_cons, ↓reduceIte, ↓z_put, Nat.reduceLT, ↓z_binOp, ↓evW_const, ↓constW_int, inR_i64, Int.reduceNeg, Int.reduceLE, and_self, ↓z_bn_lss, ↓z_ops_nil, ↓z_seq_nrm, ↓z_cond, ↓z_cnd, ↓z_gdt, ↓z_skip, ↓z_block, ↓z_region_d, ↓y_mix, true_and, ↓z_exit, ↓z_seq_ext, ↓z_lp_ext, ↓z_blk_ext, ↓z_load, Nat.reduceEqDiff, reduceCtorEq, ↓y_ty121, ↓y_sz121, ↓z_agTy_arr, ↓loadW_ptr, ↓lkoW_cons, ↓z_rd_t, Nat.zero_add, e, List.length_map, hl, Nat.reduceLeDiff, ↓z_sub_map, ↓z_store, ↓z_cl_oag, List.length_take, List.length_drop, Nat.reduceSub, ↓z_store_ptr, ↓z_sps_map, ↓z_so_cons, ↓z_put_none, ↓z_ret, ↓z_end_rt, resLW, res1W, ↓z_coeL_cons, ↓z_coeL_nil, ↓z_pack1, List.length_append, ↓z_coe_oag, D.agg.injEq, z_ite])
    refine ⟨fun _ => ?_, fun h => absurd h64 (by omega)⟩
    have e1 : ((t : Int) - 15).toNat = t - 15 := by omega
    have e2 : ((t : Int) - 2).toNat = t - 2 := by omega
    have e3 : ((t : Int) - 16).toNat = t - 16 := by omega
    have e4 : ((t : Int) - 7).toNat = t - 7 := by omega
    have eN : wN b (sch b t) t = ad (ad (ad ((sch b t).getD (t - 16) 0) (sg0 ((sch b t).getD (t - 15) 0))) ((sch b t).getD (t - 7) 0)) (sg1 ((sch b t).getD (t - 2) 0)) := if_neg (by omega)
    obtain ⟨X, hX⟩ : ∃ X, (sch b t).getD (t - 15) 0 = X := ⟨_, rfl⟩
    obtain ⟨Y, hY⟩ : ∃ X, (sch b t).getD (t - 2) 0 = X := ⟨_, rfl⟩
    obtain ⟨Z, hZ⟩ : ∃ X, (sch b t).getD (t - 16) 0 = X := ⟨_, rfl⟩
    obtain ⟨U, hU⟩ : ∃ X, (sch b t).getD (t - 7) 0 = X := ⟨_, rfl⟩
    have q1 : ∀ h, (wI (wL b t 0))[t - 15]'h = (X : Int) := fun h => by rw [wI_lo (by omega), hX]
    have q2 : ∀ h, (wI (wL b t 0))[t - 2]'h = (Y : Int) := fun h => by rw [wI_lo (by omega), hY]
    have q3 : ∀ h, (wI (wL b t 0))[t - 16]'h = (Z : Int) := fun h => by rw [wI_lo (by omega), hZ]
    have q4 : ∀ h, (wI (wL b t 0))[t - 7]'h = (U : Int) := fun h => by rw [wI_lo (by omega), hU]
    rw [hX, hY, hZ, hU] at eN
    refine rgn_d (by decide +kernel) ?_
    (simp -dsimp only [↓z_drw_move, ↓z_drwS, ↓z_grd_none, ↓z_withE, ↓z_rd_tmp, ↓lkW_cons, Nat.reduceEqDiff, ↓reduceIte, ↓z_rd_nil, ↓z_ap_cons, ↓z_ap_nil, ↓z_or_move, ↓z_move, ↓evW_tmp, e, and_true, ↓z_exD_all, ↓z_exD_eq, ↓z_put, Nat.reduceLT, ↓z_drwK, ↓z_drw_binOp, ↓z_rd_const, ↓z_or_binOp, ↓z_binOp, ↓evW_const, ↓constW_int, inR_i64, Int.reduceNeg, Int.reduceLE, and_self, ↓z_bn_sub, ↓wrW_i64, true_and, ↓z_exD_and, ↓z_drw_indexAddr, reduceCtorEq, ↓z_or_indexAddr, ↓z_indexAddr, ↓y_ty121, ↓z_elTy_arr, ↓y_sz98, ↓z_ix_ptr, e1, Nat.mul_one, Nat.zero_add, ↓z_drw_load, ↓z_or_load, ↓z_load, ↓y_ty98, ↓z_agTy_int, ↓loadW_ptr, ↓lkoW_cons, ↓z_rd_f, ↓z_nth_int, q1, hl, ↓z_exD_ex, ↓z_drw_callv, ↓z_rd_func]); (try simp only [Int.toNat_natCast, Nat.mul_one, Bool.or_false, Bool.false_or, Bool.or_self, Bool.or_true])
    refine ⟨by omega, by omega, by omega, by omega, ex_mk (.int .u32 ((rr X 7 : Nat) : Int)) (fun E => ?_) ?_⟩
    · (simp -dsimp only [↓z_ap_cons, ↓z_ap_nil, ↓z_callv, ↓evW_func, ↓z_evL_cons, ↓evW_tmp, ↓lkW_cons, ↓reduceIte, ↓evW_const, ↓constW_int, inR_i64, Int.reduceNeg, Int.reduceLE, and_self, ↓z_evL_nil, ↓z_fun0, ↓z_coeL_cons, ↓z_coe_int, ↓z_coeL_nil, true_and]); (try simp only [Int.toNat_natCast, Nat.mul_one, Bool.or_false, Bool.false_or, Bool.or_self, Bool.or_true])
      exact call_fn (fn_rotr G X 7 (by decide) (by decide)) fun _ => ⟨rfl, rfl⟩
    (simp -dsimp only [↓z_put, Nat.reduceLT, ↓z_drwK, ↓z_drw_move, ↓z_drwS, ↓z_grd_none, ↓z_withE, ↓z_rd_tmp, ↓lkW_cons, Nat.reduceEqDiff, ↓reduceIte, ↓z_rd_nil, ↓z_ap_cons, ↓z_ap_nil, ↓z_or_move, ↓z_move, ↓evW_tmp, e, and_true, ↓z_exD_all, ↓z_exD_eq, ↓z_drw_binOp, ↓z_rd_const, ↓z_or_binOp, ↓z_binOp, ↓evW_const, ↓constW_int, inR_i64, Int.reduceNeg, Int.reduceLE, and_self, ↓z_bn_sub, ↓wrW_i64, true_and, ↓z_exD_and, ↓z_drw_indexAddr, reduceCtorEq, ↓z_or_indexAddr, ↓z_indexAddr, ↓y_ty121, ↓z_elTy_arr, ↓y_sz98, ↓z_ix_ptr, e1, Nat.mul_one, Nat.zero_add, ↓z_drw_load, ↓z_or_load, ↓z_load, ↓y_ty98, ↓z_agTy_int, ↓loadW_ptr, ↓lkoW_cons, ↓z_rd_f, ↓z_nth_int, q1, hl, ↓z_exD_ex, ↓z_drw_callv, ↓z_rd_func]); (try simp only [Int.toNat_natCast, Nat.mul_one, Bool.or_false, Bool.false_or, Bool.or_self, Bool.or_true])
    refine ⟨by omega, by omega, by omega, by omega, ex_mk (.int .u32 ((rr X 18 : Nat) : Int)) (fun E => ?_) ?_⟩
    · (simp -dsimp only [↓z_ap_cons, ↓z_ap_nil, ↓z_callv, ↓evW_func, ↓z_evL_cons, ↓evW_tmp, ↓lkW_cons, ↓reduceIte, ↓evW_const, ↓constW_int, inR_i64, Int.reduceNeg, Int.reduceLE, and_self, ↓z_evL_nil, ↓z_fun0, ↓z_coeL_cons, ↓z_coe_int, ↓z_coeL_nil, true_and]); (try simp only [Int.toNat_natCast, Nat.mul_one, Bool.or_false, Bool.false_or, Bool.or_self, Bool.or_true])
      exact call_fn (fn_rotr G X 18 (by decide) (by decide)) fun _ => ⟨rfl, rfl⟩
    (simp -dsimp only [↓z_put, Nat.reduceLT, ↓z_drwK, ↓z_drw_binOp, ↓z_drwS, ↓z_grd_none, ↓z_withE, ↓z_rd_tmp, ↓lkW_cons, Nat.reduceEqDiff, ↓reduceIte, ↓z_rd_nil, ↓z_ap_cons, ↓z_ap_nil, ↓z_or_binOp, ↓z_binOp, ↓evW_tmp, ↓z_bn_xor, u32_xor, e, and_true, ↓z_exD_all, ↓z_exD_eq, ↓z_drw_move, ↓z_or_move, ↓z_move, ↓z_rd_const, ↓evW_const, ↓constW_int, inR_i64, Int.reduceNeg, Int.reduceLE, and_self, ↓z_bn_sub, ↓wrW_i64, true_and, ↓z_exD_and, ↓z_drw_indexAddr, reduceCtorEq, ↓z_or_indexAddr, ↓z_indexAddr, ↓y_ty121, ↓z_elTy_arr, ↓y_sz98, ↓z_ix_ptr, e1, Nat.mul_one, Nat.zero_add, ↓z_drw_load, ↓z_or_load, ↓z_load, ↓y_ty98, ↓z_agTy_int, ↓loadW_ptr, ↓lkoW_cons, ↓z_rd_f, ↓z_nth_int, q1, hl, ↓z_exD_ex, inR_u64, ↓z_bn_shr, sh3, ↓z_drw_assign, ↓z_or_assign, ↓z_assign, ↓z_drw_nil, ↓z_seq_nrm, ↓z_seq, ↓z_region_d, ↓y_mix]); (try simp only [Int.toNat_natCast, Nat.mul_one, Bool.or_false, Bool.false_or, Bool.or_self, Bool.or_true])
    refine ⟨by omega, by omega, by omega, by omega, rgn_d (by decide +kernel) ?_⟩
    (simp -dsimp only [↓z_drw_move, ↓z_drwS, ↓z_grd_none, ↓z_withE, ↓z_rd_tmp, ↓lkW_cons, Nat.reduceEqDiff, ↓reduceIte, ↓z_rd_nil, ↓z_ap_cons, ↓z_ap_nil, ↓z_or_move, ↓z_move, ↓evW_tmp, e, and_true, ↓z_exD_all, ↓z_exD_eq, ↓z_put, Nat.reduceLT, ↓z_drwK, ↓z_drw_binOp, ↓z_rd_const, ↓z_or_binOp, ↓z_binOp, ↓evW_const, ↓constW_int, inR_i64, Int.reduceNeg, Int.reduceLE, and_self, ↓z_bn_sub, ↓wrW_i64, true_and, ↓z_exD_and, ↓z_drw_indexAddr, reduceCtorEq, ↓z_or_indexAddr, ↓z_indexAddr, ↓y_ty121, ↓z_elTy_arr, ↓y_sz98, ↓z_ix_ptr, e2, Nat.mul_one, Nat.zero_add, ↓z_drw_load, ↓z_or_load, ↓z_load, ↓y_ty98, ↓z_agTy_int, ↓loadW_ptr, ↓lkoW_cons, ↓z_rd_f, ↓z_nth_int, q2, hl, ↓z_exD_ex, ↓z_drw_callv, ↓z_rd_func]); (try simp only [Int.toNat_natCast, Nat.mul_one, Bool.or_false, Bool.false_or, Bool.or_self, Bool.or_true])
    refine ⟨by omega, by omega, by omega, by omega, ex_mk (.int .u32 ((rr Y 17 : Nat) : Int)) (fun E => ?_) ?_⟩
    · (simp -dsimp only [↓z_ap_cons, ↓z_ap_nil, ↓z_callv, ↓evW_func, ↓z_evL_cons, ↓evW_tmp, ↓lkW_cons, ↓reduceIte, ↓evW_const, ↓constW_int, inR_i64, Int.reduceNeg, Int.reduceLE, and_self, ↓z_evL_nil, ↓z_fun0, ↓z_coeL_cons, ↓z_coe_int, ↓z_coeL_nil, true_and]); (try simp only [Int.toNat_natCast, Nat.mul_one, Bool.or_false, Bool.false_or, Bool.or_self, Bool.or_true])
      exact call_fn (fn_rotr G Y 17 (by decide) (by decide)) fun _ => ⟨rfl, rfl⟩
    (simp -dsimp only [↓z_put, Nat.reduceLT, ↓z_drwK, ↓z_drw_move, ↓z_drwS, ↓z_grd_none, ↓z_withE, ↓z_rd_tmp, ↓lkW_cons, Nat.reduceEqDiff, ↓reduceIte, ↓z_rd_nil, ↓z_ap_cons, ↓z_ap_nil, ↓z_or_move, ↓z_move, ↓evW_tmp, e, and_true, ↓z_exD_all, ↓z_exD_eq, ↓z_drw_binOp, ↓z_rd_const, ↓z_or_binOp, ↓z_binOp, ↓evW_const, ↓constW_int, inR_i64, Int.reduceNeg, Int.reduceLE, and_self, ↓z_bn_sub, ↓wrW_i64, true_and, ↓z_exD_and, ↓z_drw_indexAddr, reduceCtorEq, ↓z_or_indexAddr, ↓z_indexAddr, ↓y_ty121, ↓z_elTy_arr, ↓y_sz98, ↓z_ix_ptr, e2, Nat.mul_one, Nat.zero_add, ↓z_drw_load, ↓z_or_load, ↓z_load, ↓y_ty98, ↓z_agTy_int, ↓loadW_ptr, ↓lkoW_cons, ↓z_rd_f, ↓z_nth_int, q2, hl, ↓z_exD_ex, ↓z_drw_callv, ↓z_rd_func]); (try simp only [Int.toNat_natCast, Nat.mul_one, Bool.or_false, Bool.false_or, Bool.or_self, Bool.or_true])
    refine ⟨by omega, by omega, by omega, by omega, ex_mk (.int .u32 ((rr Y 19 : Nat) : Int)) (fun E => ?_) ?_⟩
    · (simp -dsimp only [↓z_ap_cons, ↓z_ap_nil, ↓z_callv, ↓evW_func, ↓z_evL_cons, ↓evW_tmp, ↓lkW_cons, ↓reduceIte, ↓evW_const, ↓constW_int, inR_i64, Int.reduceNeg, Int.reduceLE, and_self, ↓z_evL_nil, ↓z_fun0, ↓z_coeL_cons, ↓z_coe_int, ↓z_coeL_nil, true_and]); (try simp only [Int.toNat_natCast, Nat.mul_one, Bool.or_false, Bool.false_or, Bool.or_self, Bool.or_true])
      exact call_fn (fn_rotr G Y 19 (by decide) (by decide)) fun _ => ⟨rfl, rfl⟩
    (simp -dsimp only [↓z_put, Nat.reduceLT, ↓z_drwK, ↓z_drw_binOp, ↓z_drwS, ↓z_grd_none, ↓z_withE, ↓z_rd_tmp, ↓lkW_cons, Nat.reduceEqDiff, ↓reduceIte, ↓z_rd_nil, ↓z_ap_cons, ↓z_ap_nil, ↓z_or_binOp, ↓z_binOp, ↓evW_tmp, ↓z_bn_xor, u32_xor, e, and_true, ↓z_exD_all, ↓z_exD_eq, ↓z_drw_move, ↓z_or_move, ↓z_move, ↓z_rd_const, ↓evW_const, ↓constW_int, inR_i64, Int.reduceNeg, Int.reduceLE, and_self, ↓z_bn_sub, ↓wrW_i64, true_and, ↓z_exD_and, ↓z_drw_indexAddr, reduceCtorEq, ↓z_or_indexAddr, ↓z_indexAddr, ↓y_ty121, ↓z_elTy_arr, ↓y_sz98, ↓z_ix_ptr, e2, Nat.mul_one, Nat.zero_add, ↓z_drw_load, ↓z_or_load, ↓z_load, ↓y_ty98, ↓z_agTy_int, ↓loadW_ptr, ↓lkoW_cons, ↓z_rd_f, ↓z_nth_int, q2, hl, ↓z_exD_ex, inR_u64, ↓z_bn_shr, sh10, ↓z_drw_assign, ↓z_or_assign, ↓z_assign, ↓z_drw_nil, ↓z_seq_nrm, ↓z_region_d, ↓y_mix]); (try simp only [Int.toNat_natCast, Nat.mul_one, Bool.or_false, Bool.false_or, Bool.or_self, Bool.or_true])
    refine ⟨by omega, by omega, by omega, by omega, rgn_d (by decide +kernel) ?_⟩
    (simp -dsimp only [↓z_drw_move, ↓z_drwS, ↓z_grd_none, ↓z_withE, ↓z_rd_tmp, ↓lkW_cons, Nat.reduceEqDiff, ↓reduceIte, ↓z_rd_nil, ↓z_ap_cons, ↓z_ap_nil, ↓z_or_move, ↓z_move, ↓evW_tmp, e, and_true, ↓z_exD_all, ↓z_exD_eq, ↓z_put, Nat.reduceLT, ↓z_drwK, ↓z_drw_binOp, ↓z_rd_const, ↓z_or_binOp, ↓z_binOp, ↓evW_const, ↓constW_int, inR_i64, Int.reduceNeg, Int.reduceLE, and_self, ↓z_bn_sub, ↓wrW_i64, true_and, ↓z_exD_and, ↓z_drw_indexAddr, reduceCtorEq, ↓z_or_indexAddr, ↓z_indexAddr, ↓y_ty121, ↓z_elTy_arr, ↓y_sz98, ↓z_ix_ptr, e3, Nat.mul_one, Nat.zero_add, ↓z_drw_load, ↓z_or_load, ↓z_load, ↓y_ty98, ↓z_agTy_int, ↓loadW_ptr, ↓lkoW_cons, ↓z_rd_f, ↓z_nth_int, q3, hl, ↓z_exD_ex, ↓z_bn_add, ↓wrW_u32, e4, q4, ↓z_drw_store, ↓z_ops_plain, ↓z_store, ↓z_cl_int, List.length_cons, List.length_nil, ↓z_store_ptr, List.length_map, Nat.reduceLeDiff, ↓z_sps_int, ↓z_so_cons, ↓z_put_none, ↓z_ops_nil, ↓z_blk_nrm, ↓z_seq_nrm, ↓z_region, ↓z_assign, ↓z_lp_nrm, ↓z_wk, ↓z_wkE_cons, D.int.injEq, ↓z_wkE_nil, ↓z_wkO_cons, ↓z_wkO_nil]); (try simp only [Int.toNat_natCast])
    simp only [u32_add]
    refine ⟨by omega, by omega, by omega, by omega, by omega, by omega, by omega, by omega, by omega, by omega, by omega, by omega, t + 1, ⟨by omega, by omega⟩, by omega, by omega, ?_⟩
    show List.map (D.int .u32) (List.take t (wI (wL b t 0)) ++ [((ad (ad (ad Z (sg0 X)) U) (sg1 Y) : Nat) : Int)] ++ List.drop (t + 1) (wI (wL b t 0))) = _
    rw [← eN, wL_set h64, wL_K h64]
  · have e : t = 64 := by omega
    subst e
    (simp -dsimp only [↓z_seq, ↓z_region, ↓z_ops_plain, ↓z_move, ↓evW_tmp, ↓lkW_cons, ↓reduceIte, ↓z_put, Nat.reduceLT, ↓z_binOp, ↓evW_const, ↓constW_int, inR_i64, Int.reduceNeg, Int.reduceLE, and_self, ↓z_bn_lss, ↓z_ops_nil, ↓z_seq_nrm, ↓z_cond, ↓z_cnd, ↓z_gdt, ↓z_skip, ↓z_block, ↓z_region_d, ↓y_mix, true_and, ↓z_exit, ↓z_seq_ext, ↓z_lp_ext, ↓z_blk_ext, ↓z_load, Nat.reduceEqDiff, reduceCtorEq, ↓y_ty121, ↓y_sz121, ↓z_agTy_arr, ↓loadW_ptr, ↓lkoW_cons, ↓z_rd_t, Nat.zero_add, List.length_map, ↓z_sub_map, ↓z_store, ↓z_cl_oag, List.length_take, List.length_drop, ↓z_store_ptr, ↓z_sps_map, ↓z_so_cons, ↓z_put_none, ↓z_ret, ↓z_end_rt, resLW, res1W, ↓z_coeL_cons, ↓z_coeL_nil, ↓z_pack1, List.length_append, ↓z_coe_oag, D.agg.injEq, z_ite])
    refine ⟨fun h => absurd h (by decide), fun _ => ?_⟩
    have hz : (wI (sch b 64)).length = 64 := by rw [wI_len, sch_len]
    have hr : (wI (List.replicate 64 0)).length = 64 := rfl
    have hW : List.take 64 (wI (sch b 64)) = wI (sch b 64) := List.take_of_length_le (by omega)
    have hD : List.drop 64 (wI (List.replicate 64 0)) = [] := rfl
    (simp -dsimp only [wK_end, hz, Nat.reduceLeDiff, Nat.reduceSub, hr, List.drop_zero, hW, List.take_zero, List.nil_append, hD, List.append_nil, coe_int, and_true, true_and]); (try simp only [Int.toNat_natCast, Nat.mul_one, Bool.or_false, Bool.false_or, Bool.or_self, Bool.or_true])
    exact ⟨rfl, by decide⟩
end Go.Abs
end
