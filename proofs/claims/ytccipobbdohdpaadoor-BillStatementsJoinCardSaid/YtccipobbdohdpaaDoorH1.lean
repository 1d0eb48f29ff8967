/-
  HASH, first walks: the encodings that it needs of the wire package.
-/
import Derived.Test.YtccipobbdohdpaaDoorTy
import Derived.Lib.Zigzag
import Derived.Lib.VarintDec
namespace Go.Abs
open Go.Proofs

theorem wrap8 (x : Int) : IntKind.u8.wrap x = x % 256 := by rw [IntKind.wrap_u8]
theorem wrap64 (x : Int) : IntKind.u64.wrap x = x % 18446744073709551616 := by rw [IntKind.wrap_u64]
theorem shr7 (x : Nat) : shrI .u64 (x : Int) 7 = ((x / 128 : Nat) : Int) := by
  show (x : Int) / 2 ^ 7 = _
  omega
theorem bD_nat {n : Nat} (h : n < 256) : bD n.toUInt8 = .int .u8 n := by
  unfold bD
  have : n.toUInt8.toNat = n := by simp [Nat.toUInt8, UInt8.toNat_ofNat', Nat.mod_eq_of_lt h]
  rw [this]
theorem zz_eq {v : Int} (h0 : -9223372036854775808 ≤ v) (h1 : v ≤ 9223372036854775807) :
    bits .xor .u64 (shlI .u64 (IntKind.u64.wrap v) 1) (IntKind.u64.wrap (shrI .i64 v 63)) = ((Lib.zigzag v : Nat) : Int) := by
  have e1 : shlI .u64 (IntKind.u64.wrap v) 1 = IntKind.u64.wrap (IntKind.u64.wrap v * 2) := rfl
  have e2 : shrI .i64 v 63 = v / 9223372036854775808 := rfl
  rw [e1, e2]
  by_cases hv : 0 ≤ v
  · have e3 : v / 9223372036854775808 = 0 := by omega
    have e4 : IntKind.u64.wrap (IntKind.u64.wrap v * 2) = (((2 * v).toNat : Nat) : Int) := by rw [wrap64, wrap64]; omega
    have e5 : IntKind.u64.wrap 0 = ((0 : Nat) : Int) := by decide
    rw [e3, e4, e5, bits_xor_u64_nat _ _ (by omega) (by decide), Nat.xor_zero]
    unfold Lib.zigzag
    rw [if_pos hv]
  · have e3 : v / 9223372036854775808 = -1 := by omega
    have e4 : IntKind.u64.wrap (IntKind.u64.wrap v * 2) = (((2 * v + 18446744073709551616).toNat : Nat) : Int) := by rw [wrap64, wrap64]; omega
    have e5 : IntKind.u64.wrap (-1) = ((2 ^ 64 - 1 : Nat) : Int) := by decide
    rw [e3, e4, e5, bits_xor_u64_nat _ _ (by omega) (by decide), Nat.xor_comm, Lib.xor_ones64 _ (by omega)]
    unfold Lib.zigzag
    rw [if_neg hv]
    omega

/-- An integer's encoding. -/
def encI (v : Int) : List UInt8 := Lib.uvarint (Lib.zigzag v)
theorem encI_len {v : Int} (h0 : -9223372036854775808 ≤ v) (h1 : v ≤ 9223372036854775807) : (encI v).length ≤ 10 := Lib.uvarint_length64 (Lib.zigzag_lt h0 h1)

theorem or128 (x : Nat) : bits .or .u8 (IntKind.u8.wrap (x : Int)) 128 = ((x % 128 + 128 : Nat) : Int) := by
  rw [wrap8, Lib.u8_or128_any _ (by omega) (by omega)]; omega

set_option maxRecDepth 100000 in
set_option maxHeartbeats 4000000 in
theorem fn_Int (G : Glob) (v : Int) : FnS G Tryd.prog 31 [.int .i64 v] 1 (encI v).length ((encI v).map bD) := by
  refine FnS.mk (c := _) Tryd.func31 rfl rfl Tryd.ntmps31 Tryd.results31 ?_
  (simp -dsimp only [bodyW, List.length_cons, List.length_nil, Nat.zero_add, Nat.reduceLeDiff, wfL, ↓z_seq, ↓z_region, ↓z_ops_plain, ↓z_assign, ↓evW_const, ↓constW_nils, ↓z_put, Nat.reduceLT, ↓z_ops_nil, ↓z_seq_nrm, ↓z_move, ↓evW_tmp, ↓lkW_cons, reduceCtorEq, ↓reduceIte, ↓z_lk_env, ↓z_convert, ↓y_ty3, ↓y_ty97, ↓z_cvt_int, ↓z_cv_int, ↓z_cvi_i64_u64, ↓z_binOp, ↓constW_int, inR_u64, Int.reduceLE, and_self, ↓z_bn_shl, ↓z_bn_shr, Nat.reduceEqDiff, ↓z_bn_xor, ↓z_block, ↓z_loop, true_and])
  intro hv
  have hr : -9223372036854775808 ≤ v ∧ v ≤ 9223372036854775807 := hv.1
  have hl := encI_len hr.1 hr.2
  refine hold_intro ⟨[(4, 1)], Nat × List UInt8, fun x => ⟨27, 1, [(3, .int .u64 x.1), (4, .osl 0 1 x.2.length)], [(0, x.2.map bD)]⟩, fun x => x.2 ++ Lib.uvarint x.1 = encI v ∧ x.1 < 18446744073709551616, fun x => x.1, ?_, ?_⟩
  · (simp -dsimp only [↓z_ad_cons, Nat.reduceLT, ↓lkW_cons, ↓reduceIte, ↓z_nm_nil, ↓z_pg_cons, ↓z_mn_nils, ↓z_mn_int, ↓z_pg_env, ↓z_pg_env0, ↓z_ad_nil, ↓z_wk, ↓z_wkE_cons, Nat.reduceEqDiff, D.int.injEq, true_and, D.osl.injEq, ↓z_wkE_nil, and_true, ↓z_wkO_cons, ↓lkoW_cons, ↓z_wkO_nil]); (try simp only [Int.toNat_natCast, Nat.mul_one, Bool.or_false, Bool.false_or, Bool.or_self, Bool.or_true])
    exact ⟨(Lib.zigzag v, []), ⟨rfl, Lib.zigzag_lt hr.1 hr.2⟩, ⟨zz_eq hr.1 hr.2, rfl⟩, rfl⟩
  · rintro ⟨x, out⟩ ⟨h1, h2⟩
    (simp -dsimp only [↓z_seq, ↓z_region, ↓z_ops_plain, ↓z_move, ↓evW_tmp, ↓lkW_cons, ↓reduceIte, ↓z_put, Nat.reduceLT, ↓z_binOp, ↓evW_const, ↓constW_int, inR_u64, Int.reduceLE, and_self, ↓z_bn_gtr, ↓z_ops_nil, ↓z_seq_nrm, ↓z_cond, ↓z_cnd, ↓z_gdt, ↓z_skip, ↓z_block, Nat.reduceEqDiff, ↓z_convert, ↓y_ty97, ↓y_ty5, ↓z_cvt_int, ↓z_cv_int, ↓z_cvi_u64_u8, inR_u8, ↓z_bn_or, ↓z_buildSlice, ↓y_ty78, ↓z_slTy, ↓y_sz5, Nat.mul_one, Nat.reduceLeDiff, maxLen_lit, ↓y_zr5, List.length_cons, List.length_nil, Nat.zero_add, ↓z_repL_s, ↓z_repL_0, ↓z_cat_nil_r, ↓z_bld_cons, ↓z_cl_int, ↓spsW_cons, ↓drW_cons, reduceCtorEq, ↓drW_nil, ↓z_bld_nil, ↓z_allP_cons, ↓z_isP_int, ↓z_allP_nil, ↓z_callb, ↓z_evL_cons, ↓z_evL_nil, ↓z_append, ↓z_nint_sl, ↓y_by5, ↓z_src_slx, ↓z_app_osl, ↓lkoW_cons, List.length_map, ↓z_nmC_bytes, ↓z_room, ↓z_pgo_cons, ↓z_pgc_nm, ↓z_pgo_nil, ↓z_pg_cons, ↓z_mn_slx, ↓z_mn_int, ↓z_mn_osl, ↓z_mn_bool, ↓z_pg_nil, ↓z_so_cons, ↓z_assign, ↓z_blk_nrm, ↓z_bn_shr, ↓z_lp_nrm, ↓z_wk, ↓z_wkE_cons, D.int.injEq, true_and, D.osl.injEq, ↓z_wkE_nil, and_true, ↓z_wkO_cons, ↓z_wkO_nil, ↓z_exit, ↓z_seq_ext, ↓z_lp_ext, ↓z_blk_ext, ↓z_ret, ↓z_end_rt, resLW, res1W, ↓z_own_osl, ↓z_allP_app, ↓z_allP_bytes, List.length_append, z_ite]); (try simp only [Int.toNat_natCast, Nat.mul_one, Bool.or_false, Bool.false_or, Bool.or_self, Bool.or_true])
    have hlen : out.length + 1 ≤ (encI v).length := by
      rw [← h1, List.length_append]; have := Lib.uvarint_pos x; simp only; omega
    refine ⟨fun hx => ⟨by omega, by omega, (x / 128, out ++ [(x % 128 + 128).toUInt8]), ⟨?_, by simp only at h2 ⊢; omega⟩, by simp only; omega, ⟨shr7 x, by simp⟩, ?_⟩, fun hx => ⟨by omega, by omega, ?_⟩⟩
    · simp only at h1 ⊢
      rw [← h1, Lib.uvarint_big (x := x) (by omega)]; simp
    · rw [or128, List.map_append, List.map_cons, List.map_nil, bD_nat (by omega)]
    · simp only at h1
      rw [← h1, Lib.uvarint_small (x := x) (by omega)]
      refine ⟨by simp, ?_⟩
      rw [List.map_append, List.map_cons, List.map_nil, bD_nat (by omega), wrap8]
      congr 3; omega

theorem shr7' (x : Nat) : (x : Int) / 128 = ((x / 128 : Nat) : Int) := by omega

set_option maxRecDepth 100000 in
set_option maxHeartbeats 4000000 in
theorem fn_refInt (G : Glob) (v : Int) : FnS G Tryd.prog 34 [.int .i64 v] 1 (encI v).length ((encI v).map bD) := by
  refine FnS.mk (c := _) Tryd.func34 rfl rfl Tryd.ntmps34 Tryd.results34 ?_
  (simp -dsimp only [bodyW, List.length_cons, List.length_nil, Nat.zero_add, Nat.reduceLeDiff, wfL, ↓z_seq, ↓z_region, ↓z_ops_plain, ↓z_assign, ↓evW_const, ↓constW_nils, ↓z_put, Nat.reduceLT, ↓z_ops_nil, ↓z_seq_nrm, ↓z_move, ↓evW_tmp, ↓lkW_cons, reduceCtorEq, ↓reduceIte, ↓z_lk_env, ↓z_convert, ↓y_ty3, ↓y_ty97, ↓z_cvt_int, ↓z_cv_int, ↓z_cvi_i64_u64, ↓z_binOp, ↓constW_int, inR_u64, Int.reduceLE, and_self, ↓z_bn_mul, ↓wrW_u64, inR_i64, Int.reduceNeg, ↓z_bn_lss, ↓z_cond, ↓z_cnd, ↓z_gdt, ↓z_bn_sub, ↓wrW_i64, ↓z_bn_add, ↓z_block, ↓z_loop, true_and, ↓z_skip, z_ite])
  intro hv
  have hr : -9223372036854775808 ≤ v ∧ v ≤ 9223372036854775807 := hv.1
  have hl := encI_len hr.1 hr.2
  refine ⟨fun hv0 => ⟨by omega, ?_⟩, fun hv0 => ?_⟩
  all_goals
    refine hold_intro ⟨[(4, 1)], Nat × List UInt8, fun x => ⟨31, 1, [(3, .int .u64 x.1), (4, .osl 0 1 x.2.length)], [(0, x.2.map bD)]⟩, fun x => x.2 ++ Lib.uvarint x.1 = encI v ∧ x.1 < 18446744073709551616, fun x => x.1, ?_, ?_⟩
  case refine_1.refine_1 =>
    (simp -dsimp only [↓z_ad_cons, Nat.reduceLT, ↓lkW_cons, ↓reduceIte, ↓z_nm_nil, ↓z_pg_cons, ↓z_mn_nils, ↓z_mn_int, ↓z_mn_bool, ↓z_pg_env, ↓z_pg_env0, ↓z_ad_nil, ↓z_wk, ↓z_wkE_cons, Nat.reduceEqDiff, Int.reduceNeg, D.int.injEq, true_and, D.osl.injEq, ↓z_wkE_nil, and_true, ↓z_wkO_cons, ↓lkoW_cons, ↓z_wkO_nil]); (try simp only [Int.toNat_natCast, Nat.mul_one, Bool.or_false, Bool.false_or, Bool.or_self, Bool.or_true])
    refine ⟨(Lib.zigzag v, []), ⟨rfl, Lib.zigzag_lt hr.1 hr.2⟩, ⟨?_, rfl⟩, rfl⟩
    simp only [wrap64, Lib.zigzag, if_neg (show ¬ 0 ≤ v by omega)]
    omega
  case refine_2.refine_1 =>
    (simp -dsimp only [↓z_ad_cons, Nat.reduceLT, ↓lkW_cons, ↓reduceIte, ↓z_nm_nil, ↓z_pg_cons, ↓z_mn_nils, ↓z_mn_bool, ↓z_mn_int, ↓z_pg_env, ↓z_pg_env0, ↓z_ad_nil, ↓z_wk, ↓z_wkE_cons, Nat.reduceEqDiff, D.int.injEq, true_and, D.osl.injEq, ↓z_wkE_nil, and_true, ↓z_wkO_cons, ↓lkoW_cons, ↓z_wkO_nil]); (try simp only [Int.toNat_natCast, Nat.mul_one, Bool.or_false, Bool.false_or, Bool.or_self, Bool.or_true])
    refine ⟨(Lib.zigzag v, []), ⟨rfl, Lib.zigzag_lt hr.1 hr.2⟩, ⟨?_, rfl⟩, rfl⟩
    simp only [wrap64, Lib.zigzag, if_pos (show 0 ≤ v by omega)]
    omega
  all_goals
    rintro ⟨x, out⟩ ⟨h1, h2⟩
    (simp -dsimp only [↓z_seq, ↓z_region, ↓z_ops_plain, ↓z_move, ↓evW_tmp, ↓lkW_cons, ↓reduceIte, ↓z_put, Nat.reduceLT, ↓z_binOp, ↓evW_const, ↓constW_int, inR_u64, Int.reduceLE, and_self, ↓z_bn_geq, ↓z_ops_nil, ↓z_seq_nrm, ↓z_cond, ↓z_cnd, ↓z_gdt, ↓z_skip, ↓z_block, Nat.reduceEqDiff, ↓z_bn_rem, ↓z_rem_u64, ne_eq, Int.reduceEq, not_false_eq_true, ↓z_convert, ↓y_ty97, ↓y_ty5, ↓z_cvt_int, ↓z_cv_int, ↓z_cvi_u64_u8, inR_u8, ↓z_bn_add, ↓wrW_u8, ↓z_buildSlice, ↓y_ty78, ↓z_slTy, ↓y_sz5, Nat.mul_one, Nat.reduceLeDiff, maxLen_lit, ↓y_zr5, List.length_cons, List.length_nil, Nat.zero_add, ↓z_repL_s, ↓z_repL_0, ↓z_cat_nil_r, ↓z_bld_cons, ↓z_cl_int, ↓spsW_cons, ↓drW_cons, reduceCtorEq, ↓drW_nil, ↓z_bld_nil, ↓z_allP_cons, ↓z_isP_int, ↓z_allP_nil, ↓z_callb, ↓z_evL_cons, ↓z_evL_nil, ↓z_append, ↓z_nint_sl, ↓y_by5, ↓z_src_slx, ↓z_app_osl, ↓lkoW_cons, List.length_map, ↓z_nmC_bytes, ↓z_room, ↓z_pgo_cons, ↓z_pgc_nm, ↓z_pgo_nil, ↓z_pg_cons, ↓z_mn_slx, ↓z_mn_int, ↓z_mn_osl, ↓z_mn_bool, ↓z_pg_nil, ↓z_so_cons, ↓z_assign, ↓z_bn_quo, ↓z_quo_u64, ↓z_blk_nrm, ↓z_lp_nrm, ↓z_wk, ↓z_wkE_cons, D.int.injEq, true_and, D.osl.injEq, ↓z_wkE_nil, and_true, ↓z_wkO_cons, ↓z_wkO_nil, ↓z_exit, ↓z_seq_ext, ↓z_lp_ext, ↓z_blk_ext, ↓z_ret, ↓z_end_rt, resLW, res1W, ↓z_own_osl, ↓z_allP_app, ↓z_allP_bytes, List.length_append, z_ite]); (try simp only [Int.toNat_natCast, Nat.mul_one, Bool.or_false, Bool.false_or, Bool.or_self, Bool.or_true])
    have hlen : out.length + 1 ≤ (encI v).length := by
      rw [← h1, List.length_append]; have := Lib.uvarint_pos x; simp only; omega
    refine ⟨fun hx => ⟨by omega, by omega, (x / 128, out ++ [(x % 128 + 128).toUInt8]), ⟨?_, by simp only at h2 ⊢; omega⟩, by simp only; omega, ⟨shr7' x, by simp⟩, ?_⟩, fun hx => ⟨by omega, by omega, ?_⟩⟩
    · simp only at h1 ⊢
      rw [← h1, Lib.uvarint_big (x := x) (by omega)]; simp
    · simp only at h2
      rw [List.map_append, List.map_cons, List.map_nil, bD_nat (by omega)]
      simp only [wrap8]
      congr 3; omega
    · simp only at h1
      rw [← h1, Lib.uvarint_small (x := x) (by omega)]
      refine ⟨by simp, ?_⟩
      rw [List.map_append, List.map_cons, List.map_nil, bD_nat (by omega), wrap8]
      congr 3; omega
def encB (s : List UInt8) : List UInt8 := encI s.length ++ s
theorem encB_len {s : List UInt8} (h : s.length ≤ 1000000) : (encB s).length ≤ s.length + 10 := by
  have := encI_len (v := s.length) (by omega) (by omega)
  simp only [encB, List.length_append]; omega

set_option maxRecDepth 100000 in
set_option maxHeartbeats 4000000 in
theorem fn_Bytes (G : Glob) (s : List UInt8) (hs : s.length ≤ 1000000) : FnS G Tryd.prog 48 [.str s] 1 (encB s).length ((encB s).map bD) := by
  refine FnS.mk (c := _) Tryd.func48 rfl rfl Tryd.ntmps48 Tryd.results48 ?_
  (simp -dsimp only [bodyW, List.length_cons, List.length_nil, Nat.zero_add, Nat.reduceLeDiff, wfL, ↓z_seq, ↓z_region, ↓z_ops_plain, ↓z_assign, ↓evW_const, ↓constW_nils, ↓z_put, Nat.reduceLT, ↓z_ops_nil, ↓z_seq_nrm, ↓z_move, ↓evW_tmp, ↓lkW_cons, reduceCtorEq, ↓reduceIte, ↓z_lk_env, ↓z_callb, ↓z_evL_cons, ↓z_evL_nil, ↓z_len, ↓y_ty9, ↓z_ln_str, ↓z_callv, ↓evW_func, ↓z_fun0, ↓z_coeL_cons, ↓z_coe_int, ↓z_coeL_nil, true_and])
  intro hv
  refine call_own (fn_Int G s.length) fun _ => ?_
  have hl := encI_len (v := s.length) (by omega) (by omega)
  (simp -dsimp only [↓z_new, ↓z_nm_nil, Nat.reduceLT, ↓z_pg_cons, ↓z_mn_int, ↓z_mn_str, ↓z_mn_nils, ↓z_pg_env, ↓z_pg_env0, ↓z_put, ↓z_ops_plain, ↓z_move, ↓evW_tmp, ↓lkW_cons, reduceCtorEq, ↓reduceIte, ↓z_callb, ↓z_evL_cons, Nat.reduceEqDiff, ↓z_evL_nil, ↓z_append, ↓y_ty78, ↓z_slTy, ↓y_ty9, ↓z_nint_str, ↓y_sz5, ↓y_by5, ↓y_zr5, List.length_cons, List.length_nil, Nat.zero_add, ↓z_src_str, ↓z_app_osl, ↓lkoW_cons, List.length_map, Nat.mul_one, ↓z_nmC_bytes, ↓z_room, maxLen_lit, ↓z_pgo_cons, ↓z_pgc_nm, ↓z_pgo_nil, ↓z_mn_osl, ↓z_pg_nil, ↓z_so_cons, ↓z_assign, ↓z_ops_nil, ↓z_seq_nrm, ↓z_ret, ↓z_end_rt, resLW, res1W, ↓z_own_osl, ↓z_allP_app, ↓z_allP_bytes, and_self, List.length_append, true_and]); (try simp only [Int.toNat_natCast, Nat.mul_one, Bool.or_false, Bool.false_or, Bool.or_self, Bool.or_true])
  refine ⟨by omega, by omega, by simp [encB], by simp [encB]⟩

set_option maxRecDepth 100000 in
set_option maxHeartbeats 4000000 in
theorem fn_refBytes (G : Glob) (s : List UInt8) (hs : s.length ≤ 1000000) : FnS G Tryd.prog 56 [.str s] 1 (encB s).length ((encB s).map bD) := by
  refine FnS.mk (c := _) Tryd.func56 rfl rfl Tryd.ntmps56 Tryd.results56 ?_
  (simp -dsimp only [bodyW, List.length_cons, List.length_nil, Nat.zero_add, Nat.reduceLeDiff, wfL, ↓z_seq, ↓z_region, ↓z_ops_plain, ↓z_assign, ↓evW_const, ↓constW_nils, ↓z_put, Nat.reduceLT, ↓z_ops_nil, ↓z_seq_nrm, ↓z_move, ↓evW_tmp, ↓lkW_cons, reduceCtorEq, ↓reduceIte, ↓z_lk_env, ↓z_callb, ↓z_evL_cons, ↓z_evL_nil, ↓z_len, ↓y_ty9, ↓z_ln_str, ↓z_callv, ↓evW_func, ↓z_fun0, ↓z_coeL_cons, ↓z_coe_int, ↓z_coeL_nil, true_and])
  intro hv
  refine call_own (fn_refInt G s.length) fun _ => ?_
  have hl := encI_len (v := s.length) (by omega) (by omega)
  (simp -dsimp only [↓z_new, ↓z_nm_nil, Nat.reduceLT, ↓z_pg_cons, ↓z_mn_int, ↓z_mn_str, ↓z_mn_nils, ↓z_pg_env, ↓z_pg_env0, ↓z_put, ↓z_ops_plain, ↓z_move, ↓evW_tmp, ↓lkW_cons, reduceCtorEq, ↓reduceIte, ↓z_callb, ↓z_evL_cons, Nat.reduceEqDiff, ↓z_evL_nil, ↓z_append, ↓y_ty78, ↓z_slTy, ↓y_ty9, ↓z_nint_str, ↓y_sz5, ↓y_by5, ↓y_zr5, List.length_cons, List.length_nil, Nat.zero_add, ↓z_src_str, ↓z_app_osl, ↓lkoW_cons, List.length_map, Nat.mul_one, ↓z_nmC_bytes, ↓z_room, maxLen_lit, ↓z_pgo_cons, ↓z_pgc_nm, ↓z_pgo_nil, ↓z_mn_osl, ↓z_pg_nil, ↓z_so_cons, ↓z_assign, ↓z_ops_nil, ↓z_seq_nrm, ↓z_ret, ↓z_end_rt, resLW, res1W, ↓z_own_osl, ↓z_allP_app, ↓z_allP_bytes, and_self, List.length_append, true_and]); (try simp only [Int.toNat_natCast, Nat.mul_one, Bool.or_false, Bool.false_or, Bool.or_self, Bool.or_true])
  refine ⟨by omega, by omega, by simp [encB], by simp [encB]⟩

theorem encB_ne (s : List UInt8) : encB s ≠ [] := by
  unfold encB encI
  intro h
  have := Lib.uvarint_pos (Lib.zigzag (s.length : Int))
  rw [(List.append_eq_nil_iff.1 h).1] at this
  simp at this
end Go.Abs

