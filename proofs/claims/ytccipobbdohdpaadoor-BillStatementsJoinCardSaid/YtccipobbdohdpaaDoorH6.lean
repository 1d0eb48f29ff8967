/-
  HASH, sixth walks: a stream's hash.
-/
import Derived.Test.YtccipobbdohdpaaDoorH5
namespace Go.Abs
open Go.Proofs
theorem u8_of (x : Nat) : IntKind.u8.wrap (x : Int) = ((UInt8.ofNat x).toNat : Int) := by
  rw [IntKind.wrap_u8, UInt8.toNat_ofNat']; omega
theorem bD_of (x : Nat) : D.int .u8 (IntKind.u8.wrap (x : Int)) = bD (UInt8.ofNat x) := by unfold bD; rw [u8_of]
theorem u64_shr (a n : Nat) (h : n ≤ 64) : shrI .u64 (a : Int) (n : Int) = ((a >>> n : Nat) : Int) := by
  unfold shrI
  rw [show min (n : Int).toNat IntKind.u64.bits = n from by rw [Int.toNat_natCast]; exact Nat.min_eq_left h, Nat.shiftRight_eq_div_pow, Int.natCast_ediv, Int.natCast_pow]
  rfl
/-- The padding so far. -/
def padA (n a : Nat) : List UInt8 := (padL n).take (a + 1)
theorem padL_len (n : Nat) : (padL n).length = zN n + 9 := by simp [padL, b8]
theorem padA_len {n a : Nat} (h : a ≤ zN n + 8) : (padA n a).length = a + 1 := by unfold padA; rw [List.length_take, padL_len]; omega
theorem padA_0 (n : Nat) : padA n 0 = [128] := rfl
theorem padA_z {n a : Nat} (h : a < zN n) : padA n (a + 1) = padA n a ++ [0] := by
  unfold padA
  rw [List.take_add_one]
  congr 1
  simp only [padL, List.getElem?_cons_succ]
  rw [List.getElem?_append_left (by simpa using h)]
  simp [h]
theorem padA_b {n i : Nat} (h : i < 8) : padA n (zN n + i + 1) = padA n (zN n + i) ++ [UInt8.ofNat ((8 * n) >>> (56 - 8 * i))] := by
  unfold padA
  rw [List.take_add_one]
  congr 1
  simp only [padL, List.getElem?_cons_succ]
  rw [List.getElem?_append_right (by simp)]
  simp [b8, h]
theorem padA_end (n : Nat) : padA n (zN n + 8) = padL n := by unfold padA; exact List.take_of_length_le (by rw [padL_len]; omega)
/-- The bytes of the hash so far. -/
def outK (s : S8) (i : Nat) : List UInt8 := (outB s).take i ++ List.replicate (32 - i) 0
theorem outK_len {s : S8} {i : Nat} (h : i ≤ 32) : (outK s i).length = 32 := by simp [outK, outB_len]; omega
theorem outK_s {s : S8} {i : Nat} (h : i < 32) : (outK s i).take i ++ [UInt8.ofNat ((s8L s).getD (i / 4) 0 >>> (24 - 8 * (i % 4)))] ++ (outK s i).drop (i + 1) = outK s (i + 1) := by
  have e : (outB s)[i]? = some (UInt8.ofNat ((s8L s).getD (i / 4) 0 >>> (24 - 8 * (i % 4)))) := by simp [outB, h]
  have l : ((outB s).take i).length = i := by rw [List.length_take, outB_len]; omega
  unfold outK
  rw [List.take_left' l, List.drop_append, List.drop_of_length_le (by omega), l, List.take_add_one, e]
  simp [List.drop_replicate]
  omega
theorem outK_end (s : S8) : outK s 32 = outB s := by unfold outK; rw [List.take_of_length_le (by rw [outB_len]; omega)]; simp
theorem strC_w (s : Str) {i : Nat} (h : i < 8) (k : D → Prop) : nthW (strC s) i k = k (.int .u32 (((s8L s.st).getD i 0 : Nat) : Int)) := by
  rcases (by omega : i = 0 ∨ i = 1 ∨ i = 2 ∨ i = 3 ∨ i = 4 ∨ i = 5 ∨ i = 6 ∨ i = 7) with rfl | rfl | rfl | rfl | rfl | rfl | rfl | rfl <;> exact nthW_iff rfl
theorem pgc_str (id : Nat) (s : Str) (f : List D → Prop) : pgcW id (strC s) f = f (strC s) := z_pgc_nm (of_eq_true (nmC_str id s))
/-- What is shown once serves several ways. -/
theorem merge {X A : Prop} (x : X) (h : (Unit → X) → A) : A := h fun _ => x
/-- The walk's states while the padding grows. -/
def padI (s : Str) (fr : List (Nat × D)) : Nat → St
  | 0 => ⟨58, 2, (4, .slx 1 1 [.int .u8 128]) :: fr, [(1, (List.replicate 32 (0 : UInt8)).map bD), (0, strC s)]⟩
  | a + 1 => ⟨58, 3, (4, .osl 2 1 (a + 2)) :: fr, [(2, (padA s.n (a + 1)).map bD), (1, (List.replicate 32 (0 : UInt8)).map bD), (0, strC s)]⟩
theorem padI0 {s : Str} {fr : List (Nat × D)} : padI s fr 0 = ⟨58, 2, (4, .slx 1 1 [.int .u8 128]) :: fr, [(1, (List.replicate 32 (0 : UInt8)).map bD), (0, strC s)]⟩ := rfl
theorem padIs {s : Str} {fr : List (Nat × D)} {a : Nat} : padI s fr (a + 1) = ⟨58, 3, (4, .osl 2 1 (a + 2)) :: fr, [(2, (padA s.n (a + 1)).map bD), (1, (List.replicate 32 (0 : UInt8)).map bD), (0, strC s)]⟩ := rfl
set_option maxRecDepth 100000 in
set_option maxHeartbeats 8000000 in
theorem fn_Sum (s : Str) (hb : s.blk.length = 64) (hn : s.n ≤ 100000000000000000) : Fn GH Tryd.prog 49 [.agg (strC s)] (.agg ((sumS s).map bD)) := by
  refine Fn.mk (c := _) Tryd.func49 rfl rfl Tryd.ntmps49 Tryd.results49 ?_
  have q1 := strC_n hb
  (simp -dsimp only [bodyW, List.length_cons, List.length_nil, Nat.zero_add, Nat.reduceLeDiff, wfL, ↓z_seq, ↓z_region, ↓z_ops_plain, ↓z_box, ↓evW_tmp, ↓z_lk_env, ↓reduceIte, ↓z_cl_agg, nmC_str, ↓z_new, ↓z_nm_nil, Nat.reduceLT, ↓z_pg_env, ↓z_mn_agg, ↓z_pg_env0, ↓z_put, ↓z_alloc, ↓y_zr103, ↓z_nm_cons, ↓z_pg_cons, ↓z_mn_ptr, reduceCtorEq, ↓z_pg_nil, ↓z_ops_nil, ↓z_seq_nrm, ↓z_fieldAddr, ↓lkW_cons, Nat.reduceEqDiff, ↓y_fl99x2, ↓y_sz97, ne_eq, not_false_eq_true, ↓z_fa_ptr, ↓z_load, ↓y_ty97, ↓z_agTy_int, ↓loadW_ptr, ↓lkoW_cons, ↓z_rd_f, ↓z_binOp, ↓evW_const, ↓constW_int, inR_u64, Int.reduceLE, and_self, ↓z_assign, ↓z_buildSlice, ↓y_ty78, ↓z_slTy, ↓y_sz5, Nat.mul_one, maxLen_lit, ↓y_zr5, ↓z_repL_s, ↓z_repL_0, ↓z_cat_nil_r, ↓z_bld_cons, inR_u8, ↓z_cl_int, ↓spsW_cons, ↓drW_cons, ↓drW_nil, ↓z_bld_nil, ↓z_allP_cons, ↓z_isP_int, ↓z_allP_nil, ↓z_block, ↓z_loop, true_and, q1, ↓z_bn_mul, ↓wrW_u64])
  intro _
  have e8 : IntKind.u64.wrap (8 * (s.n : Int)) = ((8 * s.n : Nat) : Int) := by rw [IntKind.wrap_u64]; omega
  have l1 := strC_len hb
  have e9 : IntKind.i64.wrap (s.n : Int) = (s.n : Int) := by rw [IntKind.wrap_i64]; omega
  refine hold_intro ⟨[], Nat, fun a => padI s [(3, .int .u64 ((8 * s.n : Nat) : Int)), (1, .ptr 0 0), (2, .ptr 1 0)] a, fun a => a ≤ zN s.n, fun a => zN s.n - a, ?_, ?_⟩
  · refine ⟨0, Nat.zero_le _, ?_⟩
    show wkW _ (padI s _ 0)
    rw [padI0]
    (simp -dsimp only [↓z_wk, ↓z_wkE_cons, ↓lkW_cons, ↓reduceIte, Nat.reduceEqDiff, e8, Nat.zero_add, ↓z_wkE_nil, and_self, ↓z_wkO_cons, ↓lkoW_cons, reduceCtorEq, ↓z_wkO_nil, and_true, true_and]); (try simp only [Int.toNat_natCast, Nat.mul_one, Bool.or_false, Bool.false_or, Bool.or_self, Bool.or_true])
    exact rfl
  have hz : zN s.n = (119 - s.n % 64) % 64 := rfl
  have em : ∀ k : Nat, ((s.n : Int) + (k : Int)).tmod 64 = (((s.n + k) % 64 : Nat) : Int) := fun k => by rw [Int.tmod_eq_emod_of_nonneg (by omega)]; omega
  apply merge
  rotate_left
  · intro key
    rintro a ha
    cases a with
    | zero =>
      show codeW _ _ _ (padI s _ 0) _
      rw [padI0]
      (simp -dsimp only [↓z_seq, ↓z_region, ↓z_ops_plain, ↓z_fieldAddr, ↓evW_tmp, ↓lkW_cons, Nat.reduceEqDiff, ↓reduceIte, ↓y_fl99x2, ↓y_sz97, ne_eq, reduceCtorEq, not_false_eq_true, ↓z_fa_ptr, ↓z_put, Nat.reduceLT, ↓z_load, ↓y_ty97, ↓z_agTy_int, ↓loadW_ptr, ↓lkoW_cons, ↓z_rd_f, Nat.zero_add, ↓z_convert, ↓y_ty3, ↓z_cvt_int, ↓z_move, ↓z_callb, ↓z_evL_cons, ↓z_evL_nil, ↓z_len, ↓y_ty78, ↓z_binOp, ↓evW_const, ↓constW_int, inR_i64, Int.reduceNeg, Int.reduceLE, and_self, ↓z_ops_nil, ↓z_seq_nrm, ↓z_cond, ↓z_skip, ↓z_block, ↓z_buildSlice, ↓z_slTy, ↓y_sz5, Nat.mul_one, Nat.reduceLeDiff, maxLen_lit, ↓y_zr5, List.length_cons, List.length_nil, ↓z_repL_s, ↓z_repL_0, ↓z_cat_nil_r, ↓z_bld_cons, inR_u8, ↓z_cl_int, ↓spsW_cons, ↓drW_cons, ↓drW_nil, ↓z_bld_nil, ↓z_allP_cons, ↓z_isP_int, ↓z_allP_nil, ↓z_append, ↓z_nint_sl, ↓y_by5, ↓z_assign, ↓z_blk_nrm, ↓z_lp_nrm, true_and, ↓z_exit, ↓z_seq_ext, ↓z_lp_ext, ↓z_blk_ext, ↓z_loop, q1, ↓z_cv_int, ↓z_cvi_u64_i64, ↓z_ln_slx, ↓z_bn_add, ↓wrW_i64, e9, ↓z_bn_rem, ↓z_rem_i64, Int.reduceEq, ↓z_bn_neq, ↓z_cnd, ↓z_gdt, em, ↓z_src_slx, ↓z_app_slx, ↓z_room, Nat.reduceAdd, ↓z_new, ↓z_nm_cons, ↓z_nmC_bytes, nmC_str, ↓z_nm_nil, ↓z_pg_cons, ↓z_mn_slx, ↓z_mn_bool, ↓z_mn_int, ↓z_mn_ptr, ↓z_pg_nil, z_ite, Classical.not_not])
      refine ⟨by omega, fun hc => .inr (.inl ⟨1, by omega, by omega, ?_⟩), fun hc => ?_⟩
      · rw [padIs]
        (simp -dsimp only [↓z_wk, ↓z_wkE_cons, ↓lkW_cons, ↓reduceIte, Nat.zero_add, Nat.reduceEqDiff, ↓z_wkE_nil, and_self, ↓z_wkO_cons, ↓lkoW_cons, reduceCtorEq, ↓z_wkO_nil, and_true, true_and]); (try simp only [Int.toNat_natCast, Nat.mul_one, Bool.or_false, Bool.false_or, Bool.or_self, Bool.or_true])
        rw [padA_z (a := 0) (by omega), padA_0]; rfl
      · refine hold_intro ⟨[], Nat, fun i => padI s [(3, .int .u64 ((8 * s.n : Nat) : Int)), (23, .int .i64 i), (1, .ptr 0 0), (2, .ptr 1 0)] (zN s.n + i), fun i => i ≤ 8, fun i => 8 - i, ?_, key ()⟩
        refine ⟨0, Nat.zero_le _, ?_⟩
        have e0 : zN s.n + 0 = 0 := by omega
        show wkW _ (padI s _ (zN s.n + 0))
        rw [e0, padI0]
        (simp -dsimp only [↓z_wk, ↓z_wkE_cons, ↓lkW_cons, Nat.reduceEqDiff, ↓reduceIte, D.int.injEq, true_and, ↓z_wkE_nil, and_self, and_true, ↓z_wkO_cons, ↓lkoW_cons, reduceCtorEq, ↓z_wkO_nil]); (try simp only [Int.toNat_natCast, Nat.mul_one, Bool.or_false, Bool.false_or, Bool.or_self, Bool.or_true])
        rfl
    | succ a =>
      show codeW _ _ _ (padI s _ (a + 1)) _
      rw [padIs]
      have la := padA_len (n := s.n) (a := a + 1) (by omega)
      (simp -dsimp only [↓z_seq, ↓z_region, ↓z_ops_plain, ↓z_fieldAddr, ↓evW_tmp, ↓lkW_cons, Nat.reduceEqDiff, ↓reduceIte, ↓y_fl99x2, ↓y_sz97, ne_eq, reduceCtorEq, not_false_eq_true, ↓z_fa_ptr, ↓z_put, Nat.reduceLT, ↓z_load, ↓y_ty97, ↓z_agTy_int, ↓loadW_ptr, ↓lkoW_cons, ↓z_rd_f, Nat.zero_add, ↓z_convert, ↓y_ty3, ↓z_cvt_int, ↓z_move, ↓z_callb, ↓z_evL_cons, ↓z_evL_nil, ↓z_len, ↓y_ty78, ↓z_binOp, ↓evW_const, ↓constW_int, inR_i64, Int.reduceNeg, Int.reduceLE, and_self, ↓z_ops_nil, ↓z_seq_nrm, ↓z_cond, ↓z_skip, ↓z_block, ↓z_buildSlice, ↓z_slTy, ↓y_sz5, Nat.mul_one, Nat.reduceLeDiff, maxLen_lit, ↓y_zr5, List.length_cons, List.length_nil, ↓z_repL_s, ↓z_repL_0, ↓z_cat_nil_r, ↓z_bld_cons, inR_u8, ↓z_cl_int, ↓spsW_cons, ↓drW_cons, ↓drW_nil, ↓z_bld_nil, ↓z_allP_cons, ↓z_isP_int, ↓z_allP_nil, ↓z_append, ↓z_nint_sl, ↓y_by5, ↓z_assign, ↓z_blk_nrm, ↓z_lp_nrm, true_and, ↓z_exit, ↓z_seq_ext, ↓z_lp_ext, ↓z_blk_ext, ↓z_loop, q1, ↓z_cv_int, ↓z_cvi_u64_i64, ↓z_ln_osl, ↓z_bn_add, ↓wrW_i64, e9, ↓z_bn_rem, ↓z_rem_i64, Int.reduceEq, ↓z_bn_neq, ↓z_cnd, ↓z_gdt, em, ↓z_src_slx, ↓z_app_osl, List.length_map, la, ↓z_nmC_bytes, ↓z_room, ↓z_pgo_cons, ↓z_pgc_nm, ↓z_pgo_nil, ↓z_pg_cons, ↓z_mn_slx, ↓z_mn_osl, ↓z_mn_bool, ↓z_mn_int, ↓z_mn_ptr, ↓z_pg_nil, ↓z_so_cons, pgc_str, z_ite, Classical.not_not])
      refine ⟨by omega, fun hc => ⟨by omega, by omega, a + 2, by omega, by omega, ?_⟩, fun hc => ?_⟩
      · rw [padIs]
        (simp -dsimp only [↓z_wk, ↓z_wkE_cons, ↓lkW_cons, ↓reduceIte, Nat.reduceEqDiff, ↓z_wkE_nil, and_self, ↓z_wkO_cons, ↓lkoW_cons, reduceCtorEq, ↓z_wkO_nil, and_true, true_and]); (try simp only [Int.toNat_natCast, Nat.mul_one, Bool.or_false, Bool.false_or, Bool.or_self, Bool.or_true])
        rw [padA_z (a := a + 1) (by omega), List.map_append]; rfl
      · refine hold_intro ⟨[], Nat, fun i => padI s [(3, .int .u64 ((8 * s.n : Nat) : Int)), (23, .int .i64 i), (1, .ptr 0 0), (2, .ptr 1 0)] (zN s.n + i), fun i => i ≤ 8, fun i => 8 - i, ?_, key ()⟩
        refine ⟨0, Nat.zero_le _, ?_⟩
        have e0 : zN s.n + 0 = a + 1 := by omega
        show wkW _ (padI s _ (zN s.n + 0))
        rw [e0, padIs]
        (simp -dsimp only [↓z_wk, ↓z_wkE_cons, ↓lkW_cons, Nat.reduceEqDiff, ↓reduceIte, D.int.injEq, true_and, ↓z_wkE_nil, and_self, and_true, ↓z_wkO_cons, ↓lkoW_cons, reduceCtorEq, ↓z_wkO_nil]); (try simp only [Int.toNat_natCast, Nat.mul_one, Bool.or_false, Bool.false_or, Bool.or_self, Bool.or_true])
        rfl
  rintro i hi
  by_cases h8 : i < 8
  · have e56 : (56 : Int) - 8 * (i : Int) = ((56 - 8 * i : Nat) : Int) := by omega
    have esh : shrI .u64 ((8 * s.n : Nat) : Int) ((56 - 8 * i : Nat) : Int) = (((8 * s.n) >>> (56 - 8 * i) : Nat) : Int) := u64_shr _ _ (by omega)
    have eb := bD_of ((8 * s.n) >>> (56 - 8 * i))
    obtain ⟨a, ha⟩ : ∃ a, zN s.n + i = a := ⟨_, rfl⟩
    have hP := padA_b (n := s.n) h8
    rw [ha] at hP
    show codeW _ _ _ (padI s _ (zN s.n + i)) _
    rw [ha]
    cases a with
    | zero =>
      rw [padI0]
      (simp -dsimp only [↓z_seq, ↓z_region, ↓z_ops_plain, ↓z_binOp, ↓evW_tmp, ↓lkW_cons, Nat.reduceEqDiff, ↓reduceIte, ↓evW_const, ↓constW_int, inR_i64, Int.reduceNeg, Int.reduceLE, and_self, ↓z_bn_lss, ↓z_put, Nat.reduceLT, ↓z_ops_nil, ↓z_seq_nrm, ↓z_cond, ↓z_cnd, ↓z_gdt, ↓z_skip, ↓z_block, ↓z_move, ↓z_assign, ↓z_bn_mul, ↓wrW_i64, ↓z_bn_sub, e56, ↓z_bn_shr, ↓z_convert, ↓y_ty97, ↓y_ty5, ↓z_cvt_int, ↓z_cv_int, ↓z_cvi_u64_u8, ↓z_buildSlice, ↓y_ty78, ↓z_slTy, ↓y_sz5, Nat.mul_one, Nat.reduceLeDiff, maxLen_lit, ↓y_zr5, List.length_cons, List.length_nil, Nat.zero_add, ↓z_repL_s, ↓z_repL_0, ↓z_cat_nil_r, ↓z_bld_cons, ↓z_cl_int, esh, eb, ↓spsW_cons, ↓drW_cons, reduceCtorEq, ↓drW_nil, ↓z_bld_nil, ↓z_allP_cons, ↓z_isP_int, ↓z_allP_nil, ↓z_callb, ↓z_evL_cons, ↓z_evL_nil, ↓z_append, ↓z_nint_sl, ↓y_by5, ↓z_src_slx, ↓z_app_slx, ↓z_room, Nat.reduceAdd, ↓z_new, ↓z_nm_cons, ↓z_nmC_bytes, nmC_str, ↓z_nm_nil, ↓z_pg_cons, ↓z_mn_slx, ↓z_mn_int, ↓z_mn_bool, ↓z_mn_ptr, ↓z_pg_nil, ↓z_blk_nrm, ↓z_bn_add, ↓z_lp_nrm, true_and, ↓z_exit, ↓z_seq_ext, ↓z_lp_ext, ↓z_blk_ext, ↓z_load, ↓y_ty99, ↓y_sz99, ↓z_agTy_st, ↓loadW_ptr, ↓lkoW_cons, ↓z_rd_t, ↓y_ty9, ↓z_cvt_bs, ↓z_u8, ↓z_cv_bs_slx, ↓z_callv, ↓evW_func, ↓z_fun0, ↓z_coeL_cons, ↓z_coe_oag, ↓z_coe_str, ↓z_coeL_nil, z_sub, z_ite])
      refine ⟨fun _ => ⟨by omega, by omega, by omega, .inr (.inl ⟨by omega, i + 1, by omega, by omega, ?_⟩)⟩, fun h => absurd h (by omega)⟩
      show wkW _ (padI s _ (zN s.n + (i + 1)))
      rw [show zN s.n + (i + 1) = 0 + 1 from by omega, padIs, hP, padA_0]
      (simp -dsimp only [↓z_wk, ↓z_wkE_cons, ↓lkW_cons, Nat.reduceEqDiff, ↓reduceIte, Nat.zero_add, D.int.injEq, true_and, ↓z_wkE_nil, and_self, and_true, ↓z_wkO_cons, ↓lkoW_cons, reduceCtorEq, ↓z_wkO_nil]); (try simp only [Int.toNat_natCast, Nat.mul_one, Bool.or_false, Bool.false_or, Bool.or_self, Bool.or_true])
      exact ⟨by omega, rfl⟩
    | succ a =>
      rw [padIs]
      have la := padA_len (n := s.n) (a := a + 1) (by omega)
      (simp -dsimp only [↓z_seq, ↓z_region, ↓z_ops_plain, ↓z_binOp, ↓evW_tmp, ↓lkW_cons, Nat.reduceEqDiff, ↓reduceIte, ↓evW_const, ↓constW_int, inR_i64, Int.reduceNeg, Int.reduceLE, and_self, ↓z_bn_lss, ↓z_put, Nat.reduceLT, ↓z_ops_nil, ↓z_seq_nrm, ↓z_cond, ↓z_cnd, ↓z_gdt, ↓z_skip, ↓z_block, ↓z_move, ↓z_assign, ↓z_bn_mul, ↓wrW_i64, ↓z_bn_sub, e56, ↓z_bn_shr, ↓z_convert, ↓y_ty97, ↓y_ty5, ↓z_cvt_int, ↓z_cv_int, ↓z_cvi_u64_u8, ↓z_buildSlice, ↓y_ty78, ↓z_slTy, ↓y_sz5, Nat.mul_one, Nat.reduceLeDiff, maxLen_lit, ↓y_zr5, List.length_cons, List.length_nil, Nat.zero_add, ↓z_repL_s, ↓z_repL_0, ↓z_cat_nil_r, ↓z_bld_cons, ↓z_cl_int, esh, eb, ↓spsW_cons, ↓drW_cons, reduceCtorEq, ↓drW_nil, ↓z_bld_nil, ↓z_allP_cons, ↓z_isP_int, ↓z_allP_nil, ↓z_callb, ↓z_evL_cons, ↓z_evL_nil, ↓z_append, ↓z_nint_sl, ↓y_by5, ↓z_src_slx, ↓z_app_osl, ↓lkoW_cons, List.length_map, la, ↓z_nmC_bytes, ↓z_room, ↓z_pgo_cons, ↓z_pgc_nm, ↓z_pgo_nil, ↓z_pg_cons, ↓z_mn_slx, ↓z_mn_int, ↓z_mn_osl, ↓z_mn_bool, ↓z_mn_ptr, ↓z_pg_nil, ↓z_so_cons, ↓z_blk_nrm, ↓z_bn_add, ↓z_lp_nrm, true_and, pgc_str, ↓z_exit, ↓z_seq_ext, ↓z_lp_ext, ↓z_blk_ext, ↓z_load, ↓y_ty99, ↓y_sz99, ↓z_agTy_st, ↓loadW_ptr, ↓z_rd_t, ↓y_ty9, ↓z_cvt_bs, ↓z_u8, ↓z_cv_bs_osl, ↓z_src_osl, ↓z_allP_bytes, ↓bsW_map, ↓z_callv, ↓evW_func, ↓z_fun0, ↓z_coeL_cons, ↓z_coe_oag, ↓z_coe_str, ↓z_coeL_nil, z_sub, z_ite])
      refine ⟨fun _ => ⟨by omega, by omega, by omega, by omega, by omega, by omega, i + 1, by omega, by omega, ?_⟩, fun h => absurd h (by omega)⟩
      show wkW _ (padI s _ (zN s.n + (i + 1)))
      rw [show zN s.n + (i + 1) = a + 1 + 1 from by omega, padIs, hP]
      (simp -dsimp only [↓z_wk, ↓z_wkE_cons, ↓lkW_cons, Nat.reduceEqDiff, ↓reduceIte, D.int.injEq, true_and, ↓z_wkE_nil, and_self, and_true, ↓z_wkO_cons, ↓lkoW_cons, reduceCtorEq, ↓z_wkO_nil]); (try simp only [Int.toNat_natCast, Nat.mul_one, Bool.or_false, Bool.false_or, Bool.or_self, Bool.or_true])
      exact ⟨by omega, by rw [List.map_append]; rfl⟩
  · have hi8 : i = 8 := by omega
    subst hi8
    show codeW _ _ _ (padI s _ (zN s.n + 7 + 1)) _
    rw [padIs, show zN s.n + 7 + 1 = zN s.n + 8 from rfl, padA_end]
    have la := padL_len s.n
    (simp -dsimp only [↓z_seq, ↓z_region, ↓z_ops_plain, ↓z_binOp, ↓evW_tmp, ↓lkW_cons, Nat.reduceEqDiff, ↓reduceIte, ↓evW_const, ↓constW_int, inR_i64, Int.reduceNeg, Int.reduceLE, and_self, ↓z_bn_lss, ↓z_put, Nat.reduceLT, ↓z_ops_nil, ↓z_seq_nrm, ↓z_cond, ↓z_cnd, ↓z_gdt, ↓z_skip, ↓z_block, ↓z_move, ↓z_assign, ↓z_bn_mul, ↓wrW_i64, ↓z_bn_sub, ↓z_bn_shr, ↓z_convert, ↓y_ty97, ↓y_ty5, ↓z_cvt_int, ↓z_cv_int, ↓z_cvi_u64_u8, ↓z_buildSlice, ↓y_ty78, ↓z_slTy, ↓y_sz5, Nat.mul_one, Nat.reduceLeDiff, maxLen_lit, ↓y_zr5, List.length_cons, List.length_nil, Nat.zero_add, ↓z_repL_s, ↓z_repL_0, ↓z_cat_nil_r, ↓z_bld_cons, ↓z_cl_int, ↓spsW_cons, ↓drW_cons, reduceCtorEq, ↓drW_nil, ↓z_bld_nil, ↓z_allP_cons, ↓z_isP_int, ↓z_allP_nil, ↓z_callb, ↓z_evL_cons, ↓z_evL_nil, ↓z_append, ↓z_nint_sl, ↓y_by5, ↓z_src_slx, ↓z_app_osl, ↓lkoW_cons, List.length_map, la, ↓z_nmC_bytes, ↓z_room, ↓z_pgo_cons, ↓z_pgc_nm, ↓z_pgo_nil, ↓z_pg_cons, ↓z_mn_slx, ↓z_mn_int, ↓z_mn_osl, ↓z_mn_bool, ↓z_mn_ptr, ↓z_pg_nil, ↓z_so_cons, ↓z_blk_nrm, ↓z_bn_add, ↓z_lp_nrm, Nat.reduceSub, true_and, pgc_str, ↓z_exit, ↓z_seq_ext, ↓z_lp_ext, ↓z_blk_ext, ↓z_load, ↓y_ty99, ↓y_sz99, ↓z_agTy_st, ↓loadW_ptr, ↓z_rd_t, ↓y_ty9, ↓z_cvt_bs, ↓z_u8, ↓z_cv_bs_osl, ↓z_src_osl, ↓z_allP_bytes, ↓bsW_map, ↓z_callv, ↓evW_func, ↓z_fun0, ↓z_coeL_cons, ↓z_coe_oag, ↓z_coe_str, ↓z_coeL_nil, z_sub, z_ite])
    refine ⟨fun h => absurd h (by decide), fun _ => ?_⟩
    have t1 : List.take 73 (List.drop 0 (strC s)) = strC s := List.take_of_length_le (by rw [List.drop_zero]; omega)
    rw [t1, coe_str]
    refine ⟨by omega, call_wk ⟨58, 2, [(1, .ptr 0 0), (2, .ptr 1 0)], [(1, (List.replicate 32 (0 : UInt8)).map bD), (0, strC s)]⟩ (by (simp -dsimp only [↓z_wk, ↓z_wkE_cons, ↓lkW_cons, Nat.reduceEqDiff, ↓reduceIte, ↓z_wkE_nil, and_self, ↓z_wkO_cons, ↓lkoW_cons, reduceCtorEq, ↓z_wkO_nil]); (try simp only [Int.toNat_natCast, Nat.mul_one, Bool.or_false, Bool.false_or, Bool.or_self, Bool.or_true])) (call0_fn (fn_Add s hb (padL s.n) (by omega)) fun _ => ?_)⟩
    obtain ⟨S, hS⟩ : ∃ S, addS s (padL s.n) = S := ⟨_, rfl⟩
    have hSb : S.blk.length = 64 := by rw [← hS, addS_blk, hb]
    have l2 := strC_len hSb
    have t2 : List.take 0 (strC s) ++ strC S ++ List.drop 73 (strC s) = strC S := by
      rw [List.take_zero, List.nil_append, List.drop_of_length_le (by omega), List.append_nil]
    rw [hS]
    (simp -dsimp only [↓z_put, Nat.reduceLT, ↓z_ops_plain, ↓z_store, ↓evW_tmp, ↓lkW_cons, Nat.reduceEqDiff, ↓reduceIte, ↓y_sz99, ↓z_cl_agg, l2, ↓z_store_ptr, ↓lkoW_cons, reduceCtorEq, Nat.zero_add, l1, Nat.reduceLeDiff, ↓z_so_cons, ↓z_put_none, ↓z_ops_nil, ↓z_seq_nrm, ↓z_seq, ↓z_region, ↓z_alloc, ↓y_zr103, ↓z_new, ↓z_nm_cons, ↓z_nmC_bytes, ↓z_nm_nil, ↓z_pg_cons, ↓z_mn_agg, ↓z_mn_ptr, ↓z_pg_nil, ↓z_move, ↓evW_const, ↓constW_int, inR_i64, Int.reduceNeg, Int.reduceLE, and_self, ↓z_block, ↓z_loop, true_and, z_sps, ↓z_nmC_app])
    have n2 : ∀ (x : Str), nmC 2 (strC x) := fun x => of_eq_true (nmC_str 2 x)
    refine ⟨⟨⟨fun c hc => n2 s c (List.mem_of_mem_take hc), n2 S⟩, fun c hc => n2 s c (List.mem_of_mem_drop hc)⟩, ?_⟩
    refine hold_intro ⟨[], Nat, fun i => ⟨58, 3, [(40, .int .i64 i), (6, .ptr 2 0), (1, .ptr 0 0), (2, .ptr 1 0)], [(2, (outK S.st i).map bD), (1, (List.replicate 32 (0 : UInt8)).map bD), (0, strC S)]⟩, fun i => i ≤ 32, fun i => 32 - i, ?_, ?_⟩
    · (simp -dsimp only [↓z_ad_nil, ↓z_wk, ↓z_wkE_cons, ↓lkW_cons, ↓reduceIte, D.int.injEq, true_and, Nat.reduceEqDiff, ↓z_wkE_nil, and_self, and_true, ↓z_wkO_cons, ↓lkoW_cons, reduceCtorEq, Nat.zero_add, t2, ↓z_wkO_nil]); (try simp only [Int.toNat_natCast, Nat.mul_one, Bool.or_false, Bool.false_or, Bool.or_self, Bool.or_true])
      exact ⟨0, by omega, rfl, rfl⟩
    rintro i hi
    have lo := outK_len (s := S.st) hi
    have lz : (List.replicate 32 (0 : UInt8)).length = 32 := by decide
    by_cases h32 : i < 32
    · have e4 : (i : Int).tdiv 4 = ((i / 4 : Nat) : Int) := by rw [Int.tdiv_eq_ediv_of_nonneg (by omega)]; omega
      have e5 : (24 : Int) - 8 * (i : Int).tmod 4 = ((24 - 8 * (i % 4) : Nat) : Int) := by rw [Int.tmod_eq_emod_of_nonneg (by omega)]; omega
      have qw := strC_w S (i := i / 4) (by omega)
      have esh := u32_shr ((s8L S.st).getD (i / 4) 0) (24 - 8 * (i % 4)) (by omega)
      have eb : D.int .u8 (IntKind.u8.wrap ((sR ((s8L S.st).getD (i / 4) 0) (24 - 8 * (i % 4)) : Nat) : Int)) = bD (UInt8.ofNat ((s8L S.st).getD (i / 4) 0 >>> (24 - 8 * (i % 4)))) := bD_of _
      (simp -dsimp only [↓z_seq, ↓z_region, ↓z_ops_plain, ↓z_binOp, ↓evW_tmp, ↓lkW_cons, ↓reduceIte, ↓evW_const, ↓constW_int, inR_i64, Int.reduceNeg, Int.reduceLE, and_self, ↓z_bn_lss, ↓z_put, Nat.reduceLT, ↓z_ops_nil, ↓z_seq_nrm, ↓z_cond, ↓z_cnd, ↓z_gdt, ↓z_skip, ↓z_block, ↓z_move, Nat.reduceEqDiff, ↓z_assign, ↓z_bn_quo, ↓z_quo_i64, ne_eq, Int.reduceEq, not_false_eq_true, e4, ↓z_fieldAddr, ↓y_fl99x0, ↓y_sz95, reduceCtorEq, ↓z_fa_ptr, ↓z_indexAddr, ↓y_ty95, ↓z_elTy_arr, ↓y_sz94, ↓z_ix_ptr, ↓z_load, ↓y_ty94, ↓z_agTy_int, ↓loadW_ptr, ↓lkoW_cons, ↓z_rd_f, Nat.zero_add, Nat.mul_one, ↓z_bn_rem, ↓z_rem_i64, ↓z_bn_mul, ↓wrW_i64, ↓z_bn_sub, e5, ↓z_convert, ↓y_ty5, ↓z_cvt_int, ↓y_ty103, ↓y_sz5, ↓z_store, ↓z_put_none, ↓z_blk_nrm, ↓z_lp_nrm, true_and, ↓z_exit, ↓z_seq_ext, ↓z_lp_ext, ↓z_blk_ext, ↓y_sz103, ↓z_agTy_arr, ↓z_rd_t, List.length_map, lo, Nat.reduceLeDiff, ↓z_sub_map, ↓z_cl_oag, List.length_take, List.length_drop, Nat.reduceSub, ↓z_store_ptr, lz, ↓z_sps_map, ↓z_so_cons, ↓z_ret, ↓z_end_rt, resLW, res1W, ↓z_coeL_cons, ↓z_coeL_nil, ↓z_pack1, List.length_append, ↓z_coe_oag, ↓z_coeC_bytes, D.agg.injEq, z_ite]); (try simp only [Int.toNat_natCast])
      refine ⟨fun _ => ⟨by omega, by omega, by omega, ?_⟩, fun h => absurd h (by omega)⟩
      rw [qw]
      (simp -dsimp only [Int.reduceNeg, ↓z_bn_shr, ↓z_cv_int, ↓z_cvi_u32_u8, ↓z_put, Nat.reduceLT, ↓evW_tmp, ↓lkW_cons, Nat.reduceEqDiff, ↓reduceIte, ↓z_ix_ptr, ↓z_cl_int, esh, eb, List.length_cons, List.length_nil, Nat.zero_add, ↓z_store_ptr, ↓lkoW_cons, Nat.mul_one, List.length_map, lo, Nat.reduceLeDiff, ↓z_so_cons, ↓z_bn_add, ↓wrW_i64, inR_i64, ↓z_wk, ↓z_wkE_cons, D.int.injEq, true_and, ↓z_wkE_nil, and_self, and_true, ↓z_wkO_cons, reduceCtorEq, ↓z_wkO_nil, z_sps]); (try simp only [Int.toNat_natCast])
      have tm : (i : Int).tmod 4 = ((i % 4 : Nat) : Int) := by rw [Int.tmod_eq_emod_of_nonneg (by omega)]; omega
      rw [tm]
      refine ⟨by omega, by omega, by omega, by omega, by omega, by omega, by omega, i + 1, by omega, by omega, by omega, ?_⟩
      rw [← outK_s h32, List.map_append, List.map_append, List.map_take, List.map_drop]; rfl
    · have hi' : i = 32 := by omega
      subst hi'
      rw [outK_end] at lo
      (simp -dsimp only [↓z_seq, ↓z_region, ↓z_ops_plain, ↓z_binOp, ↓evW_tmp, ↓lkW_cons, ↓reduceIte, ↓evW_const, ↓constW_int, inR_i64, Int.reduceNeg, Int.reduceLE, and_self, ↓z_bn_lss, ↓z_put, Nat.reduceLT, ↓z_ops_nil, ↓z_seq_nrm, ↓z_cond, ↓z_cnd, ↓z_gdt, ↓z_skip, ↓z_block, ↓z_move, Nat.reduceEqDiff, ↓z_assign, ↓z_bn_quo, ↓z_quo_i64, ne_eq, Int.reduceEq, not_false_eq_true, ↓z_fieldAddr, ↓y_fl99x0, ↓y_sz95, reduceCtorEq, ↓z_fa_ptr, ↓z_indexAddr, ↓y_ty95, ↓z_elTy_arr, ↓y_sz94, ↓z_ix_ptr, ↓z_load, ↓y_ty94, ↓z_agTy_int, ↓loadW_ptr, ↓lkoW_cons, ↓z_rd_f, Nat.zero_add, Nat.mul_one, ↓z_bn_rem, ↓z_rem_i64, ↓z_bn_mul, ↓wrW_i64, ↓z_bn_sub, ↓z_convert, ↓y_ty5, ↓z_cvt_int, outK_end, ↓y_ty103, ↓y_sz5, ↓z_store, ↓z_put_none, ↓z_blk_nrm, ↓z_lp_nrm, Nat.reduceSub, true_and, ↓z_exit, ↓z_seq_ext, ↓z_lp_ext, ↓z_blk_ext, ↓y_sz103, ↓z_agTy_arr, ↓z_rd_t, List.length_map, lo, Nat.reduceLeDiff, ↓z_sub_map, ↓z_cl_oag, List.length_take, List.length_drop, ↓z_store_ptr, lz, ↓z_sps_map, ↓z_so_cons, ↓z_ret, ↓z_end_rt, resLW, res1W, ↓z_coeL_cons, ↓z_coeL_nil, ↓z_pack1, List.length_append, ↓z_coe_oag, ↓z_coeC_bytes, D.agg.injEq, z_ite]); (try simp only [Int.toNat_natCast, Nat.mul_one, Bool.or_false, Bool.false_or, Bool.or_self, Bool.or_true])
      refine ⟨fun h => absurd h (by decide), fun _ => ?_⟩
      have tk : List.take 32 (outB S.st) = outB S.st := List.take_of_length_le (by omega)
      have eS : sumS s = outB S.st := by unfold sumS; rw [hS]
      refine ⟨by decide, by decide, ?_⟩
      rw [eS, List.drop_zero, List.take_zero, List.drop_zero, List.nil_append, tk, show List.drop 32 (List.replicate 32 (0 : UInt8)) = [] from rfl, List.append_nil, tk]
end Go.Abs

