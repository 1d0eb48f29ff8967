/-
  HASH, eighth walks: lists of parts; hashes and digests as strings.
-/
import Derived.Test.YtccipobbdohdpaaDoorH7
section
namespace Go.Abs
open Go.Proofs
theorem bD_take_s {h : List UInt8} {i : Nat} (hi : i < h.length) : (h.take i).map bD ++ [D.int .u8 h[i].toNat] = (h.take (i + 1)).map bD := by
  have e1 : h.take (i + 1) = h.take i ++ [h[i]] := by simp
  rw [e1, List.map_append]; rfl
/-- The first bytes of a hash, as they are copied. -/
def cpK (h : List UInt8) (i : Nat) : List UInt8 := h.take i ++ List.replicate (16 - i) 0
theorem cpK_len {h : List UInt8} {i : Nat} (hl : 16 ≤ h.length) (hi : i ≤ 16) : (cpK h i).length = 16 := by simp [cpK]; omega
theorem cpK_s {h : List UInt8} {i : Nat} (hl : 16 ≤ h.length) (hi : i < 16) : (cpK h i).take i ++ [h[i]] ++ (cpK h i).drop (i + 1) = cpK h (i + 1) := by
  have l : (h.take i).length = i := by rw [List.length_take]; omega
  unfold cpK
  rw [List.take_left' l, List.drop_append, List.drop_of_length_le (by omega), l, List.take_add_one, List.getElem?_eq_getElem (by omega)]
  simp [List.drop_replicate]
  omega
theorem cpK_end {h : List UInt8} : cpK h 16 = h.take 16 := by simp [cpK]
set_option maxRecDepth 100000 in
set_option maxHeartbeats 8000000 in
theorem fn_Text (G : Glob) (h : List UInt8) (hh : h.length = 16) : Fn G Tryd.prog 35 [.agg (h.map bD)] (.str h) := by
  refine Fn.mk (c := _) Tryd.func35 rfl rfl Tryd.ntmps35 Tryd.results35 ?_
  (simp -dsimp only [bodyW, List.length_cons, List.length_nil, Nat.zero_add, Nat.reduceLeDiff, wfL, ↓z_seq, ↓z_region, ↓z_ops_plain, ↓z_box, ↓evW_tmp, ↓z_lk_env, ↓reduceIte, ↓z_cl_agg, ↓z_nmC_bytes, ↓z_new, ↓z_nm_nil, Nat.reduceLT, ↓z_pg_env, ↓z_mn_agg, ↓z_pg_env0, ↓z_put, ↓z_assign, ↓evW_const, ↓constW_string, maxLen_lit, ↓z_ops_nil, ↓z_seq_nrm, ↓constW_nils, ↓constW_int, inR_i64, Int.reduceNeg, Int.reduceLE, and_self, ↓z_block, ↓z_loop, true_and])
  intro _
  refine hold_intro ⟨[(3, 1)], Nat, fun i => ⟨17, 2, [(4, .int .i64 i), (3, .osl 1 1 i), (1, .ptr 0 0)], [(1, (h.take i).map bD), (0, h.map bD)]⟩, fun i => i ≤ 16, fun i => 16 - i, ?_, ?_⟩
  · (simp -dsimp only [↓z_ad_cons, Nat.reduceLT, ↓lkW_cons, Nat.reduceEqDiff, ↓reduceIte, ↓z_nm_cons, ↓z_nmC_bytes, ↓z_nm_nil, Nat.zero_add, ↓z_pg_cons, ↓z_mn_int, ↓z_mn_nils, ↓z_mn_str, ↓z_mn_ptr, reduceCtorEq, ↓z_mn_agg, ↓z_pg_nil, ↓z_ad_nil, ↓z_wk, ↓z_wkE_cons, D.int.injEq, true_and, D.osl.injEq, ↓z_wkE_nil, and_self, and_true, ↓z_wkO_cons, ↓lkoW_cons, ↓z_wkO_nil]); (try simp only [Int.toNat_natCast, Nat.mul_one, Bool.or_false, Bool.false_or, Bool.or_self, Bool.or_true])
    exact ⟨0, by omega, ⟨rfl, rfl⟩, rfl⟩
  rintro i hi
  have ht : (h.take i).length = i := by rw [List.length_take]; omega
  (simp -dsimp only [↓z_seq, ↓z_region, ↓z_ops_plain, ↓z_move, ↓evW_tmp, ↓lkW_cons, ↓reduceIte, ↓z_put, Nat.reduceLT, ↓z_binOp, ↓evW_const, ↓constW_int, inR_i64, Int.reduceNeg, Int.reduceLE, and_self, ↓z_bn_lss, ↓z_ops_nil, ↓z_seq_nrm, ↓z_cond, ↓z_cnd, ↓z_gdt, ↓z_skip, ↓z_block, Nat.reduceEqDiff, ↓z_indexAddr, ↓y_ty40, ↓z_elTy_arr, ↓y_sz5, ↓z_ix_ptr, ↓z_load, ↓y_ty5, ↓z_agTy_int, ↓loadW_ptr, ↓lkoW_cons, reduceCtorEq, ↓z_rd_f, ↓z_nth_bytes, ↓z_buildSlice, ↓y_ty78, ↓z_slTy, Nat.mul_one, Nat.reduceLeDiff, maxLen_lit, ↓y_zr5, List.length_cons, List.length_nil, Nat.zero_add, ↓z_repL_s, ↓z_repL_0, ↓z_cat_nil_r, ↓z_bld_cons, ↓z_cl_int, ↓spsW_cons, ↓drW_cons, ↓drW_nil, ↓z_bld_nil, ↓z_allP_cons, ↓z_isP_int, ↓z_allP_nil, ↓z_callb, ↓z_evL_cons, ↓z_evL_nil, ↓z_append, ↓z_nint_sl, ↓y_by5, ↓z_src_slx, ↓z_app_osl, List.length_map, ht, ↓z_nmC_bytes, ↓z_room, ↓z_pgo_cons, ↓z_pgc_nm, ↓z_pgo_nil, ↓z_pg_cons, ↓z_mn_slx, ↓z_mn_int, ↓z_mn_ptr, ↓z_mn_osl, ↓z_mn_bool, ↓z_pg_nil, ↓z_so_cons, ↓z_assign, ↓z_blk_nrm, ↓z_bn_add, ↓wrW_i64, ↓z_lp_nrm, ↓z_wk, ↓z_wkE_cons, D.int.injEq, true_and, D.osl.injEq, ↓z_wkE_nil, and_true, ↓z_wkO_cons, ↓z_wkO_nil, hh, ↓z_exit, ↓z_seq_ext, ↓z_lp_ext, ↓z_blk_ext, ↓z_convert, ↓y_ty9, ↓z_cvt_bs, ↓z_u8, ↓z_cv_bs_osl, ↓z_src_osl, ↓z_allP_bytes, ↓bsW_map, ↓z_ret, ↓z_end_rt, resLW, res1W, ↓z_coeL_cons, ↓z_coeL_nil, ↓z_pack1, ↓z_coe_str, D.str.injEq, z_ite]); (try simp only [Int.toNat_natCast])
  refine ⟨fun hlt => ⟨by omega, by omega, by omega, by omega, by omega, by omega, i + 1, by omega, by omega, ⟨by omega, by omega⟩, bD_take_s (by omega)⟩, fun hge => List.take_of_length_le (by omega)⟩
set_option maxRecDepth 100000 in
set_option maxHeartbeats 8000000 in
theorem fn_Short (b : List UInt8) (hb : b.length ≤ 10000000000) : Fn GK Tryd.prog 51 [.sl 1 b.length (b.map bD)] (.agg (((sha b).take 16).map bD)) := by
  refine Fn.mk (c := _) Tryd.func51 rfl rfl Tryd.ntmps51 Tryd.results51 ?_
  (simp -dsimp only [bodyW, List.length_cons, List.length_nil, Nat.zero_add, Nat.reduceLeDiff, wfL, ↓z_seq, ↓z_region, ↓z_ops_plain, ↓z_alloc, ↓y_zr40, ↓z_new, ↓z_nm_nil, Nat.reduceLT, ↓z_pg_env, ↓z_mn_sl, ↓z_pg_env0, ↓z_put, ↓z_ops_nil, ↓z_seq_nrm, ↓z_move, ↓evW_tmp, ↓lkW_cons, reduceCtorEq, ↓reduceIte, ↓z_callv, ↓evW_func, ↓z_evL_cons, ↓z_evL_nil, ↓z_fun0, ↓z_coeL_cons, ↓z_coe_sl, ↓z_coeL_nil, true_and])
  intro _
  refine call_fn (fn_rSum b hb) fun _ => ?_
  have ls := sha_len b
  generalize sha b = h at ls
  (simp -dsimp only [↓z_put, Nat.reduceLT, ↓z_ops_plain, ↓z_alloc, ↓y_zr103, ↓z_new, ↓z_nm_cons, ↓z_nmC_cons, ↓z_mn'_int, ↓z_nmC_nil, and_self, ↓z_nm_nil, Nat.zero_add, ↓z_pg_cons, ↓z_mn_agg, ↓z_mn_sl, ↓z_mn_ptr, reduceCtorEq, ↓reduceIte, ↓z_pg_nil, ↓z_store, ↓evW_tmp, ↓lkW_cons, Nat.reduceEqDiff, ↓y_sz103, ↓z_cl_agg, List.length_map, ls, ↓z_store_ptr, ↓lkoW_cons, List.length_cons, List.length_nil, Nat.reduceAdd, Nat.reduceLeDiff, ↓spsW_cons, ↓drW_cons, Nat.reduceSub, ↓drW_nil, ↓z_cat_nil_r, ↓z_so_cons, ↓z_put_none, ↓z_ops_nil, ↓z_seq_nrm, ↓z_seq, ↓z_region, ↓z_build, ↓y_ty40, ↓z_blTy_arr, ↓y_zr40, ↓y_sz5, ↓z_bld_nil, ↓z_nmC_bytes, ↓z_mn_oag, ↓z_mnL_int, ↓z_mnL_nil, ↓y_sz40, ↓z_cl_oag, ↓z_assign, ↓evW_const, ↓constW_int, inR_i64, Int.reduceNeg, Int.reduceLE, ↓z_block, ↓z_loop, true_and])
  refine hold_intro ⟨[], Nat, fun i => ⟨19, 3, [(5, .int .i64 i), (4, .ptr 2 0), (3, .ptr 1 0), (2, .ptr 0 0)], [(2, (cpK h i).map bD), (1, h.map bD), (0, (List.replicate 16 (0 : UInt8)).map bD)]⟩, fun i => i ≤ 16, fun i => 16 - i, ?_, ?_⟩
  · (simp -dsimp only [↓z_ad_nil, ↓z_wk, ↓z_wkE_cons, ↓lkW_cons, ↓reduceIte, D.int.injEq, true_and, Nat.reduceEqDiff, Nat.zero_add, Nat.reduceAdd, ↓z_wkE_nil, and_self, and_true, ↓z_wkO_cons, ↓lkoW_cons, reduceCtorEq, ↓z_wkO_nil]); (try simp only [Int.toNat_natCast, Nat.mul_one, Bool.or_false, Bool.false_or, Bool.or_self, Bool.or_true])
    exact ⟨0, by omega, rfl, by simp [cpK]; rfl, rfl⟩
  rintro i hi
  have lc := cpK_len (h := h) (i := i) (by omega) hi
  by_cases h16 : i < 16
  · (simp -dsimp only [↓z_seq, ↓z_region, ↓z_ops_plain, ↓z_move, ↓evW_tmp, ↓lkW_cons, ↓reduceIte, ↓z_put, Nat.reduceLT, ↓z_binOp, ↓evW_const, ↓constW_int, inR_i64, Int.reduceNeg, Int.reduceLE, and_self, ↓z_bn_lss, ↓z_ops_nil, ↓z_seq_nrm, ↓z_cond, ↓z_cnd, ↓z_gdt, ↓z_skip, ↓z_block, Nat.reduceEqDiff, ↓z_indexAddr, ↓y_ty103, ↓z_elTy_arr, ↓y_sz5, ↓z_ix_ptr, ↓z_load, ↓y_ty5, ↓z_agTy_int, ↓loadW_ptr, ↓lkoW_cons, ↓z_rd_f, ↓z_nth_bytes, ↓y_ty40, ↓z_store, ↓z_cl_int, Nat.mul_one, Nat.zero_add, List.length_cons, List.length_nil, ↓z_store_ptr, List.length_map, lc, Nat.reduceLeDiff, ↓z_sps_byte, ↓z_so_cons, ↓z_put_none, ↓z_blk_nrm, ↓z_bn_add, ↓wrW_i64, ↓z_assign, ↓z_lp_nrm, ↓z_wk, ↓z_wkE_cons, D.int.injEq, true_and, ↓z_wkE_nil, and_true, ↓z_wkO_cons, reduceCtorEq, ↓z_wkO_nil, ls, ↓z_exit, ↓z_seq_ext, ↓z_lp_ext, ↓z_blk_ext, ↓y_sz40, ↓z_agTy_arr, ↓z_rd_t, ↓z_sub_map, ↓z_cl_oag, List.length_take, List.length_drop, Nat.reduceSub, ↓z_sps_map, ↓z_ret, ↓z_end_rt, resLW, res1W, ↓z_coeL_cons, ↓z_coeL_nil, ↓z_pack1, List.length_append, ↓z_coe_oag, ↓z_coeC_bytes, D.agg.injEq, z_ite]); (try simp only [Int.toNat_natCast])
    refine ⟨fun _ => ⟨by omega, by omega, by omega, by omega, by omega, by omega, by omega, i + 1, by omega, by omega, by omega, ?_⟩, fun hh => absurd hh (by omega)⟩
    rw [← cpK_s (by omega) h16, List.map_append, List.map_append, List.map_take, List.map_drop]
  · have : i = 16 := by omega
    subst this
    (simp -dsimp only [↓z_seq, ↓z_region, ↓z_ops_plain, ↓z_move, ↓evW_tmp, ↓lkW_cons, ↓reduceIte, ↓z_put, Nat.reduceLT, ↓z_binOp, ↓evW_const, ↓constW_int, inR_i64, Int.reduceNeg, Int.reduceLE, and_self, ↓z_bn_lss, ↓z_ops_nil, ↓z_seq_nrm, ↓z_cond, ↓z_cnd, ↓z_gdt, ↓z_skip, ↓z_block, Nat.reduceEqDiff, ↓z_indexAddr, ↓y_ty103, ↓z_elTy_arr, ↓y_sz5, ↓z_ix_ptr, ↓z_load, ↓y_ty5, ↓z_agTy_int, ↓loadW_ptr, ↓lkoW_cons, ↓z_rd_f, ↓z_nth_bytes, ↓y_ty40, ↓z_store, ↓z_cl_int, Nat.mul_one, Nat.zero_add, List.length_cons, List.length_nil, ↓z_store_ptr, List.length_map, lc, Nat.reduceLeDiff, ↓z_sps_byte, ↓z_so_cons, ↓z_put_none, ↓z_blk_nrm, ↓z_bn_add, ↓wrW_i64, ↓z_assign, ↓z_lp_nrm, Nat.reduceSub, ↓z_wk, ↓z_wkE_cons, D.int.injEq, true_and, ↓z_wkE_nil, and_true, ↓z_wkO_cons, reduceCtorEq, ↓z_wkO_nil, ↓z_exit, ↓z_seq_ext, ↓z_lp_ext, ↓z_blk_ext, ↓y_sz40, ↓z_agTy_arr, ↓z_rd_t, ↓z_sub_map, ↓z_cl_oag, List.drop_zero, List.length_take, ↓z_sps_map, ↓z_ret, ↓z_end_rt, resLW, res1W, List.take_zero, List.nil_append, ↓z_coeL_cons, ↓z_coeL_nil, ↓z_pack1, List.length_append, List.length_drop, ↓z_coe_oag, ↓z_coeC_bytes, D.agg.injEq, z_ite]); (try simp only [Int.toNat_natCast])
    refine ⟨fun hh => absurd hh (by decide), fun _ => ⟨by decide, by decide, by decide, ?_⟩⟩
    have tk : List.take 16 (cpK h 16) = cpK h 16 := List.take_of_length_le (by omega)
    rw [tk, show List.drop 16 (List.replicate 16 (0 : UInt8)) = [] from rfl, List.append_nil, tk, cpK_end]
end Go.Abs
end
section
namespace Go.Abs
open Go.Proofs
def tagB (t : Int) : UInt8 := UInt8.ofNat (t % 256).toNat
theorem tagB_D (t : Int) : D.int .u8 (IntKind.u8.wrap t) = bD (tagB t) := by
  unfold bD tagB
  rw [IntKind.wrap_u8, UInt8.toNat_ofNat']
  congr 1; omega
theorem clW_bD (x : UInt8) (k : List D → Prop) : clW (bD x) k = k [bD x] := rfl
theorem nmR_bD (a : Nat) (x : UInt8) : nmR a (bD x) = True := eq_true (nmR_P rfl)
theorem isP_bD (x : UInt8) : (isP (bD x) = true) = True := eq_true rfl
theorem bs_1 (x : UInt8) (k : List UInt8 → Prop) : bsW [bD x] k = k [x] := bsW_map [x] k
def inpL (t : Int) (parts : List (List UInt8)) : List UInt8 := tagB t :: parts.flatMap encB
def ofD (t : Int) (parts : List (List UInt8)) : List UInt8 := (sha (inpL t parts)).take 16
theorem ofD_len (t : Int) (parts : List (List UInt8)) : (ofD t parts).length = 16 := by unfold ofD; rw [List.length_take, sha_len]; rfl
theorem fm_s {l : List (List UInt8)} {i : Nat} (h : i < l.length) : (l.take (i + 1)).flatMap encB = (l.take i).flatMap encB ++ encB l[i] := by
  have e1 : l.take (i + 1) = l.take i ++ [l[i]] := by simp
  rw [e1, List.flatMap_append]; simp
theorem fm_le (l : List (List UInt8)) (i : Nat) : ((l.take i).flatMap encB).length ≤ (l.flatMap encB).length := by
  have e : l.flatMap encB = (l.take i).flatMap encB ++ (l.drop i).flatMap encB := by rw [← List.flatMap_append, List.take_append_drop]
  rw [e, List.length_append]; omega
def inpI (parts : List (List UInt8)) (t : Int) : Nat → St
  | 0 => ⟨24, 0, [(6, .int .i64 0), (5, .slx 1 1 [bD (tagB t)]), (1, .sl 1 parts.length (parts.map D.str))], []⟩
  | i + 1 => ⟨24, 1, [(6, .int .i64 ((i + 1 : Nat) : Int)), (5, .osl 0 1 (1 + ((parts.take (i + 1)).flatMap encB).length)), (1, .sl 1 parts.length (parts.map D.str))], [(0, (tagB t :: (parts.take (i + 1)).flatMap encB).map bD)]⟩
theorem inpI0 {parts : List (List UInt8)} {t : Int} : inpI parts t 0 = ⟨24, 0, [(6, .int .i64 0), (5, .slx 1 1 [bD (tagB t)]), (1, .sl 1 parts.length (parts.map D.str))], []⟩ := rfl
theorem inpIs {parts : List (List UInt8)} {t : Int} {i : Nat} : inpI parts t (i + 1) = ⟨24, 1, [(6, .int .i64 ((i + 1 : Nat) : Int)), (5, .osl 0 1 (1 + ((parts.take (i + 1)).flatMap encB).length)), (1, .sl 1 parts.length (parts.map D.str))], [(0, (tagB t :: (parts.take (i + 1)).flatMap encB).map bD)]⟩ := rfl
set_option maxRecDepth 100000 in
set_option maxHeartbeats 8000000 in
theorem fn_Input1 (G : Glob) (t : Int) (parts : List (List UInt8)) (hp : ∀ x ∈ parts, x.length ≤ 1000000) (ht : (parts.flatMap encB).length ≤ 1000000000) (h0 : 0 < parts.length) :
    Fn G Tryd.prog 52 [.int .i64 t, .sl 1 parts.length (parts.map D.str)] (.sl 1 (inpL t parts).length ((inpL t parts).map bD)) := by
  refine Fn.mk (c := _) Tryd.func52 rfl rfl Tryd.ntmps52 Tryd.results52 ?_
  (simp -dsimp only [bodyW, List.length_cons, List.length_nil, Nat.zero_add, Nat.reduceAdd, Nat.reduceLeDiff, wfL, ↓z_seq, ↓z_region, ↓z_ops_plain, ↓z_assign, ↓evW_const, ↓constW_nils, ↓z_put, Nat.reduceLT, ↓z_ops_nil, ↓z_seq_nrm, ↓z_move, ↓evW_tmp, ↓lkW_cons, reduceCtorEq, ↓reduceIte, ↓z_lk_env, ↓z_convert, ↓y_ty3, ↓y_ty5, ↓z_cvt_int, ↓z_cv_int, ↓z_cvi_i64_u8, ↓z_buildSlice, ↓y_ty78, ↓z_slTy, ↓y_sz5, Nat.mul_one, maxLen_lit, ↓y_zr5, ↓z_repL_s, ↓z_repL_0, ↓z_cat_nil_r, ↓z_bld_cons, ↓z_cl_int, tagB_D, ↓spsW_cons, ↓drW_cons, ↓drW_nil, ↓z_bld_nil, ↓z_allP_cons, ↓z_isP_int, ↓z_allP_nil, and_self, ↓constW_int, inR_i64, Int.reduceNeg, Int.reduceLE, ↓z_block, ↓z_loop, true_and])
  intro _ hw
  have hw' : parts.length ≤ 9223372036854775807 := hw.1.1
  refine hold_intro ⟨[], Nat, inpI parts t, fun i => i ≤ parts.length, fun i => parts.length - i, ?_, ?_⟩
  · refine ⟨0, by omega, ?_⟩
    rw [inpI0]
    (simp -dsimp only [↓z_wk, ↓z_wkE_cons, ↓lkW_cons, ↓reduceIte, Nat.reduceEqDiff, tagB_D, ↓z_lk_env, reduceCtorEq, Nat.zero_add, ↓z_wkE_nil, and_self, ↓z_wkO_nil]); (try simp only [Int.toNat_natCast, Nat.mul_one, Bool.or_false, Bool.false_or, Bool.or_self, Bool.or_true])
  rintro i hi
  cases i with
  | zero =>
    rw [inpI0]
    (simp -dsimp only [↓z_seq, ↓z_region, ↓z_ops_plain, ↓z_move, ↓evW_tmp, ↓lkW_cons, ↓reduceIte, ↓z_put, Nat.reduceLT, Nat.reduceEqDiff, ↓z_callb, ↓z_evL_cons, ↓z_evL_nil, ↓z_len, ↓y_ty82, ↓z_ln_sl, ↓z_binOp, ↓z_bn_lss, ↓z_ops_nil, ↓z_seq_nrm, ↓z_cond, ↓z_cnd, ↓z_gdt, ↓z_skip, ↓z_block, ↓z_indexAddr, ↓z_elTy_sl, ↓y_sz9, ↓z_ix_sl, Int.reduceLE, ↓z_load, ↓y_ty9, ↓z_agTy_str, ↓loadW_rop, ↓z_rd_f, ↓z_nth_str, ↓z_callv, ↓evW_func, ↓z_fun0, ↓z_coeL_cons, ↓z_coe_str, ↓z_coeL_nil, true_and, Int.reduceToNat, Nat.mul_one, ↓z_exit, ↓z_seq_ext, ↓z_lp_ext, ↓z_blk_ext, ↓z_assign, ↓z_ret, ↓z_end_rt, resLW, res1W, ↓z_pack1, ↓z_coe_slx, reduceCtorEq, z_ite])
    have hx := hp _ (List.getElem_mem h0)
    have hs := fm_s h0
    have hle := fm_le parts (0 + 1)
    refine ⟨fun h => ⟨by omega, by omega, call_fn (fn_refBytes G parts[0] hx).fn fun _ => ?_⟩, fun h => absurd h0 (by omega)⟩
    (simp -dsimp only [↓z_put, Nat.reduceLT, ↓z_ops_plain, ↓z_callb, ↓z_evL_cons, ↓evW_tmp, ↓lkW_cons, Nat.reduceEqDiff, ↓reduceIte, ↓z_evL_nil, ↓z_append, ↓y_ty78, ↓z_slTy, ↓z_nint_sl, ↓y_sz5, ↓y_by5, ↓y_zr5, List.length_cons, List.length_nil, Nat.zero_add, ↓z_src_sl, ↓z_app_slx, ↓z_room, Nat.mul_one, maxLen_lit, reduceCtorEq, ↓z_new, ↓z_nm_nil, ↓z_pg_cons, ↓z_mn_sl, ↓z_mn_str, ↓z_mn_rop, ↓z_mn_int, ↓z_mn_slx, ↓z_mn_bool, ↓z_pg_nil, ↓z_assign, ↓z_ops_nil, ↓z_blk_nrm, ↓z_seq_nrm, ↓z_region, ↓z_move, ↓z_binOp, ↓evW_const, ↓constW_int, inR_i64, Int.reduceNeg, Int.reduceLE, and_self, ↓z_bn_add, ↓wrW_i64, ↓z_lp_nrm, Int.reduceToNat, true_and]); (try simp only [Int.toNat_natCast, Nat.mul_one, Bool.or_false, Bool.false_or, Bool.or_self, Bool.or_true])
    have hpos : 0 < (encB parts[0]).length := List.length_pos_iff.2 (encB_ne _)
    have hs' : (parts.take (0 + 1)).flatMap encB = encB parts[0] := by rw [hs]; simp
    rw [hs'] at hle
    refine ⟨by omega, by omega, .inr (.inl ⟨hpos, by omega, 0 + 1, by omega, by omega, ?_⟩)⟩
    rw [inpIs, hs']
    (simp -dsimp only [↓z_wk, ↓z_wkE_cons, ↓lkW_cons, ↓reduceIte, Nat.zero_add, D.int.injEq, true_and, Nat.reduceEqDiff, ↓z_wkE_nil, and_self, and_true, ↓z_wkO_cons, ↓lkoW_cons, ↓z_wkO_nil]); (try simp only [Int.toNat_natCast, Nat.mul_one, Bool.or_false, Bool.false_or, Bool.or_self, Bool.or_true])
    exact ⟨rfl, rfl⟩
  | succ i =>
    rw [inpIs]
    (simp -dsimp only [↓z_seq, ↓z_region, ↓z_ops_plain, ↓z_move, ↓evW_tmp, ↓lkW_cons, ↓reduceIte, ↓z_put, Nat.reduceLT, Nat.reduceEqDiff, ↓z_callb, ↓z_evL_cons, ↓z_evL_nil, ↓z_len, ↓y_ty82, ↓z_ln_sl, ↓z_binOp, ↓z_bn_lss, ↓z_ops_nil, ↓z_seq_nrm, ↓z_cond, ↓z_cnd, ↓z_gdt, ↓z_skip, ↓z_block, ↓z_indexAddr, ↓z_elTy_sl, ↓y_sz9, ↓z_ix_sl, ↓z_load, ↓y_ty9, ↓z_agTy_str, ↓loadW_rop, ↓z_rd_f, ↓z_nth_str, ↓z_callv, ↓evW_func, ↓z_fun0, ↓z_coeL_cons, ↓z_coe_str, ↓z_coeL_nil, true_and, Nat.mul_one, ↓z_exit, ↓z_seq_ext, ↓z_lp_ext, ↓z_blk_ext, ↓z_assign, ↓z_ret, ↓z_end_rt, resLW, res1W, ↓z_pack1, ↓z_coe_osl, ↓lkoW_cons, ↓z_allP_bytes, List.length_map, List.length_cons, D.sl.injEq, z_ite]); (try simp only [Int.toNat_natCast])
    refine ⟨fun h => ?_, fun h => ?_⟩
    · have hj : i + 1 < parts.length := by omega
      have hx := hp _ (List.getElem_mem hj)
      have hs := fm_s hj
      have hle := fm_le parts (i + 1 + 1)
      rw [hs, List.length_append] at hle
      refine ⟨by omega, by omega, by omega, call_fn (fn_refBytes G _ (by simpa using hx)).fn fun _ => ?_⟩
      (simp -dsimp only [↓z_put, Nat.reduceLT, ↓z_ops_plain, ↓z_callb, ↓z_evL_cons, ↓evW_tmp, ↓lkW_cons, Nat.reduceEqDiff, ↓reduceIte, ↓z_evL_nil, ↓z_append, ↓y_ty78, ↓z_slTy, ↓z_nint_sl, ↓y_sz5, ↓y_by5, ↓y_zr5, List.length_cons, List.length_nil, Nat.zero_add, ↓z_src_sl, ↓z_app_osl, ↓lkoW_cons, List.length_map, Nat.mul_one, ↓z_nmC_bytes, ↓z_room, maxLen_lit, ↓z_pgo_cons, ↓z_pgc_nm, ↓z_pgo_nil, ↓z_pg_cons, ↓z_mn_sl, ↓z_mn_str, ↓z_mn_rop, ↓z_mn_int, ↓z_mn_osl, ↓z_mn_bool, ↓z_pg_nil, ↓z_so_cons, ↓z_assign, ↓z_ops_nil, ↓z_blk_nrm, ↓z_seq_nrm, ↓z_region, ↓z_move, ↓z_binOp, ↓evW_const, ↓constW_int, inR_i64, Int.reduceNeg, Int.reduceLE, and_self, ↓z_bn_add, ↓wrW_i64, ↓z_lp_nrm, true_and]); (try simp only [Int.toNat_natCast, Nat.mul_one, Bool.or_false, Bool.false_or, Bool.or_self, Bool.or_true])
      refine ⟨by omega, by omega, by omega, by omega, i + 1 + 1, by omega, by omega, ?_⟩
      rw [inpIs, hs]
      (simp -dsimp only [↓z_wk, ↓z_wkE_cons, ↓lkW_cons, ↓reduceIte, D.int.injEq, true_and, Nat.reduceEqDiff, List.length_append, D.osl.injEq, ↓z_wkE_nil, and_self, and_true, ↓z_wkO_cons, ↓lkoW_cons, ↓z_wkO_nil]); (try simp only [Int.toNat_natCast, Nat.mul_one, Bool.or_false, Bool.false_or, Bool.or_self, Bool.or_true])
      exact ⟨⟨by omega, by omega⟩, by rw [List.map_cons, List.map_cons, List.map_append]; rfl⟩
    · have e : i + 1 = parts.length := by omega
      rw [e, List.take_length]
      exact ⟨by omega, by unfold inpL; rw [List.length_cons]; omega, rfl⟩
set_option maxRecDepth 100000 in
set_option maxHeartbeats 8000000 in
theorem fn_Input0 (G : Glob) (t : Int) : Fn G Tryd.prog 52 [.int .i64 t, .sl 1 0 []] (.slx 1 1 [bD (tagB t)]) := by
  refine Fn.mk (c := _) Tryd.func52 rfl rfl Tryd.ntmps52 Tryd.results52 ?_
  (simp -dsimp only [bodyW, List.length_cons, List.length_nil, Nat.zero_add, Nat.reduceAdd, Nat.reduceLeDiff, wfL, ↓z_seq, ↓z_region, ↓z_ops_plain, ↓z_assign, ↓evW_const, ↓constW_nils, ↓z_put, Nat.reduceLT, ↓z_ops_nil, ↓z_seq_nrm, ↓z_move, ↓evW_tmp, ↓lkW_cons, reduceCtorEq, ↓reduceIte, ↓z_lk_env, ↓z_convert, ↓y_ty3, ↓y_ty5, ↓z_cvt_int, ↓z_cv_int, ↓z_cvi_i64_u8, ↓z_buildSlice, ↓y_ty78, ↓z_slTy, ↓y_sz5, Nat.mul_one, maxLen_lit, ↓y_zr5, ↓z_repL_s, ↓z_repL_0, ↓z_cat_nil_r, ↓z_bld_cons, ↓z_cl_int, tagB_D, ↓spsW_cons, ↓drW_cons, ↓drW_nil, ↓z_bld_nil, ↓z_allP_cons, ↓z_isP_int, ↓z_allP_nil, and_self, ↓constW_int, inR_i64, Int.reduceNeg, Int.reduceLE, ↓z_block, ↓z_loop, true_and])
  intro _ _
  refine hold_intro ⟨[], Unit, fun _ => ⟨24, 0, [(6, .int .i64 0), (5, .slx 1 1 [bD (tagB t)]), (1, .sl 1 0 [])], []⟩, fun _ => True, fun _ => 0, ?_, ?_⟩
  · refine ⟨(), trivial, ?_⟩
    (simp -dsimp only [↓z_wk, ↓z_wkE_cons, ↓lkW_cons, ↓reduceIte, Nat.reduceEqDiff, tagB_D, ↓z_lk_env, reduceCtorEq, Nat.zero_add, ↓z_wkE_nil, and_self, ↓z_wkO_nil]); (try simp only [Int.toNat_natCast, Nat.mul_one, Bool.or_false, Bool.false_or, Bool.or_self, Bool.or_true])
  rintro _ _
  (simp -dsimp only [↓z_seq, ↓z_region, ↓z_ops_plain, ↓z_move, ↓evW_tmp, ↓lkW_cons, ↓reduceIte, ↓z_put, Nat.reduceLT, Nat.reduceEqDiff, ↓z_callb, ↓z_evL_cons, ↓z_evL_nil, ↓z_len, ↓y_ty82, ↓z_ln_sl, ↓z_binOp, ↓z_bn_lss, ↓z_ops_nil, ↓z_seq_nrm, ↓z_cond, ↓z_cnd, ↓z_gdt, ↓z_skip, ↓z_block, ↓z_indexAddr, ↓z_elTy_sl, ↓y_sz9, ↓z_ix_sl, Int.reduceLE, ↓z_load, ↓y_ty9, ↓z_agTy_str, ↓loadW_rop, ↓z_rd_f, Int.reduceToNat, Nat.mul_one, ↓z_callv, ↓evW_func, ↓z_fun0, ↓z_coeL_cons, ↓z_coeL_nil, true_and, ↓z_exit, ↓z_seq_ext, ↓z_lp_ext, ↓z_blk_ext, ↓z_assign, ↓z_ret, ↓z_end_rt, resLW, res1W, ↓z_pack1, ↓z_coe_slx, and_self, z_ite])
  exact ⟨fun h => absurd h (by decide), fun _ => trivial⟩
theorem fn_Input (G : Glob) (t : Int) (parts : List (List UInt8)) (hp : ∀ x ∈ parts, x.length ≤ 1000000) (ht : (parts.flatMap encB).length ≤ 1000000000) :
    Fn G Tryd.prog 52 [.int .i64 t, .sl 1 parts.length (parts.map D.str)] (.sl 1 (inpL t parts).length ((inpL t parts).map bD)) := by
  match parts, hp, ht with
  | [], _, _ => exact (fn_Input0 G t).outW (.slx ..)
  | x :: r, hp, ht => exact fn_Input1 G t (x :: r) hp ht (by simp)
set_option maxRecDepth 100000 in
set_option maxHeartbeats 8000000 in
theorem fn_rOf (t : Int) (parts : List (List UInt8)) (hp : ∀ x ∈ parts, x.length ≤ 1000000) (ht : (parts.flatMap encB).length ≤ 1000000000) :
    Fn GK Tryd.prog 33 [.int .i64 t, .sl 1 parts.length (parts.map D.str)] (.agg ((ofD t parts).map bD)) := by
  refine Fn.mk (c := _) Tryd.func33 rfl rfl Tryd.ntmps33 Tryd.results33 ?_
  (simp -dsimp only [bodyW, List.length_cons, List.length_nil, Nat.zero_add, Nat.reduceAdd, Nat.reduceLeDiff, wfL, ↓z_seq, ↓z_region, ↓z_ops_plain, ↓z_alloc, ↓y_zr40, ↓z_new, ↓z_nm_nil, Nat.reduceLT, ↓z_pg_env, ↓z_mn_int, ↓z_mn_sl, ↓z_pg_env0, ↓z_put, ↓z_ops_nil, ↓z_seq_nrm, ↓z_move, ↓evW_tmp, ↓lkW_cons, reduceCtorEq, ↓reduceIte, Nat.reduceEqDiff, ↓z_callv, ↓evW_func, ↓z_evL_cons, ↓z_evL_nil, ↓z_fun0, ↓z_coeL_cons, ↓z_coe_int, ↓z_coe_sl, ↓z_coeL_nil, true_and])
  intro _ _
  refine call_fn (fn_Input GK t parts hp ht) fun _ => ?_
  (simp -dsimp only [↓z_put, Nat.reduceLT, ↓z_ops_plain, ↓z_callv, ↓evW_func, ↓z_evL_cons, ↓evW_tmp, ↓lkW_cons, ↓reduceIte, ↓z_evL_nil, ↓z_fun0, ↓z_coeL_cons, ↓z_coe_sl, ↓z_coeL_nil, true_and])
  refine call_fn (fn_Short (inpL t parts) (by unfold inpL; rw [List.length_cons]; omega)) fun _ => ?_
  have hl := ofD_len t parts
  unfold ofD at hl
  (simp -dsimp only [↓z_put, Nat.reduceLT, ↓z_ops_plain, ↓z_store, ↓evW_tmp, ↓lkW_cons, Nat.reduceEqDiff, ↓reduceIte, ↓y_sz40, ↓z_cl_agg, List.length_map, hl, ↓z_store_ptr, ↓lkoW_cons, Nat.zero_add, List.length_cons, List.length_nil, Nat.reduceAdd, Nat.reduceLeDiff, ↓spsW_cons, ↓drW_cons, reduceCtorEq, Nat.reduceSub, ↓drW_nil, ↓z_cat_nil_r, ↓z_so_cons, ↓z_put_none, ↓z_ops_nil, ↓z_seq_nrm, ↓z_ret, ↓z_end_rt, resLW, res1W, ↓y_ty40, ↓z_agTy_arr, ↓z_coeL_cons, ↓z_coeL_nil, ↓z_pack1, ↓loadW_ptr, ↓z_rd_t, ↓z_sub_map, ↓z_coe_oag, ↓z_coeC_bytes, List.drop_zero, D.agg.injEq, true_and]); (try simp only [Int.toNat_natCast, Nat.mul_one, Bool.or_false, Bool.false_or, Bool.or_self, Bool.or_true])
  rw [List.take_of_length_le (by omega)]; rfl
set_option maxRecDepth 100000 in
set_option maxHeartbeats 8000000 in
theorem fn_Of (t : Int) (parts : List (List UInt8)) (hp : ∀ x ∈ parts, x.length ≤ 1000000) (ht : (parts.flatMap encB).length ≤ 1000000000) :
    Fn GH Tryd.prog 30 [.int .i64 t, .sl 1 parts.length (parts.map D.str)] (.agg ((ofD t parts).map bD)) := by
  refine Fn.mk (c := _) Tryd.func30 rfl rfl Tryd.ntmps30 Tryd.results30 ?_
  (simp -dsimp only [bodyW, List.length_cons, List.length_nil, Nat.zero_add, Nat.reduceAdd, Nat.reduceLeDiff, wfL, ↓z_seq, ↓z_region, ↓z_ops_plain, ↓z_alloc, ↓y_zr40, ↓z_new, ↓z_nm_nil, Nat.reduceLT, ↓z_pg_env, ↓z_mn_int, ↓z_mn_sl, ↓z_pg_env0, ↓z_put, ↓z_ops_nil, ↓z_seq_nrm, ↓z_region_d, ↓y_mix, true_and])
  intro _ hw
  have hw' : parts.length ≤ 9223372036854775807 := hw.1.1
  refine rgn_x 7 [] (by decide +kernel) ?_
  (simp -dsimp only [↓z_nmRE_cons, ↓z_nmR_ptr, Nat.zero_add, Nat.reduceLT, Nat.reduceLeDiff, or_false, ↓z_nmR_int, ↓z_nmR_sl, ↓z_nmRE_nil, and_self, ↓z_nmRO_cons, ↓z_nmRL_cons, ↓z_nmRL_nil, ↓z_nmRO_nil, ↓z_splitO_cons, List.not_mem_nil, ↓reduceIte, ↓z_splitO_nil, List.take_succ_cons, List.take_zero, List.drop_succ_cons, List.drop_zero, ↓z_seq, ↓z_region, ↓z_ops_plain, ↓z_move, ↓z_callb, ↓z_evL_cons, ↓z_evL_nil, ↓z_len, ↓y_ty82, ↓evW_const, ↓constW_int, inR_i64, Int.reduceNeg, Int.reduceLE, ↓z_ops_nil, ↓z_seq_nrm, ↓z_block, ↓z_loop, true_and, resLW, res1W, ↓y_ty40, ↓y_sz40, ↓z_agTy_arr, ↓z_coeL_cons, ↓z_coeL_nil, ↓z_pack1, ↓z_store, ↓evW_tmp, ↓y_sz99, ↓z_put_none, ↓z_drx_callv])
  refine cv_ex ?_
  (simp -dsimp only [↓z_drxA_callv, ↓z_grd_none, ↓z_withE, ↓z_rd_func, ↓z_rd_nil])
  refine ex_mk (.agg (strC str0)) (fun E X => by (simp -dsimp only [↓z_ap_nil, ↓z_apO_cons, ↓z_apO_nil, ↓z_callv, ↓evW_func, ↓z_evL_nil, ↓z_fun0, ↓z_coeL_nil]); (try simp only [Int.toNat_natCast, Nat.mul_one, Bool.or_false, Bool.false_or, Bool.or_self, Bool.or_true]); exact call_fn (fn_Begin GH) fun _ => ⟨rfl, rfl⟩) ?_
  (simp -dsimp only [↓z_nmR_agg, ↓z_put, Nat.reduceLT, ↓z_drxK, ↓z_drx_move, ↓z_drxS, ↓z_grd_none, ↓z_withE, ↓z_rd_tmp, ↓lkW_cons, reduceCtorEq, ↓reduceIte, ↓z_rd_nil, ↓z_ap_cons, ↓z_ap_nil, ↓z_apO_cons, ↓z_apO_nil, ↓z_or_move, ↓z_move, ↓evW_tmp, and_true, ↓z_exD_all, ↓z_exD_all2, ↓z_exD_eq, ↓z_nmR_int, ↓z_drx_convert, ↓z_or_convert, ↓y_ty3, ↓y_ty5, ↓z_cvR_int, ↓z_convert, ↓z_cvt_int, ↓z_cv_int, ↓z_cvi_i64_u8, tagB_D, nmR_bD, ↓z_drx_buildSlice, ↓z_mpO_cons, ↓z_mpO_nil, ↓z_ap_app, ↓z_or_buildSlice, ↓z_buildSlice, ↓y_ty78, ↓z_slTy, ↓y_sz5, Nat.mul_one, Nat.reduceLeDiff, maxLen_lit, ↓y_zr5, List.length_cons, List.length_nil, Nat.zero_add, ↓z_repL_s, ↓z_repL_0, ↓z_cat_nil_r, ↓z_bld_cons, ↓spsW_cons, ↓drW_cons, ↓drW_nil, ↓z_bld_nil, true_and, clW_bD, ↓z_allP_cons, isP_bD, ↓z_allP_nil, and_self, ↓z_nmR_slx, ↓y_ty9, ↓z_cvR_sl, ↓z_cvt_bs, ↓z_u8, ↓z_cv_bs_slx, bs_1, ↓z_nmR_str, ↓z_drx_callv]); (try simp only [Int.toNat_natCast, Nat.mul_one, Bool.or_false, Bool.false_or, Bool.or_self, Bool.or_true])
  refine cv_ex ?_
  (simp -dsimp only [↓z_drxA_callv, ↓z_grd_none, ↓z_withE, ↓z_rd_func, ↓z_rd_tmp, ↓lkW_cons, Nat.reduceEqDiff, ↓reduceIte, ↓z_rd_nil]); (try simp only [Int.toNat_natCast, Nat.mul_one, Bool.or_false, Bool.false_or, Bool.or_self, Bool.or_true])
  refine ex_mk (.agg (strC (addS str0 [tagB t]))) (fun E X => by (simp -dsimp only [↓z_ap_cons, ↓z_ap_nil, ↓z_apO_cons, ↓z_apO_nil, ↓z_callv, ↓evW_func, ↓z_evL_cons, ↓evW_tmp, ↓lkW_cons, ↓reduceIte, Nat.reduceEqDiff, ↓z_evL_nil, ↓z_fun0, ↓z_coeL_cons, ↓z_coe_agg, ↓z_coe_str, ↓z_coeL_nil]); (try simp only [Int.toNat_natCast, Nat.mul_one, Bool.or_false, Bool.false_or, Bool.or_self, Bool.or_true]); exact call_fn (fn_Add str0 rfl [tagB t] (by simp [str0])) fun _ => ⟨rfl, rfl⟩) ?_
  (simp -dsimp only [↓z_nmR_agg, ↓z_put, Nat.reduceLT, ↓z_drxK, ↓z_drx_alloc, ↓y_zr99, ↓z_nmRL_cons, ↓z_nmR_int, ↓z_nmRL_nil, and_self, ↓z_drx_nil, ↓z_apO_cons, ↓z_apO_nil, ↓lkW_cons, ↓reduceIte, Nat.reduceEqDiff, ↓z_cl_agg, ↓z_store_ptr, ↓lkoW_cons, Nat.zero_add, List.length_cons, List.length_nil, Nat.reduceAdd, Nat.reduceLeDiff, ↓spsW_cons, ↓drW_cons, reduceCtorEq, Nat.reduceSub, ↓drW_nil, ↓z_cat_nil_r, ↓z_so_cons, ↓evW_tmp, ↓z_ln_sl, true_and]); (try simp only [Int.toNat_natCast, Nat.mul_one, Bool.or_false, Bool.false_or, Bool.or_self, Bool.or_true])
  have hT : ∀ i, tagB t :: (parts.take i).flatMap encB = [tagB t] ++ (parts.take i).flatMap encB := fun i => rfl
  have hSb : ∀ m, (addS str0 m).blk.length = 64 := fun m => by rw [addS_blk]; rfl
  have hSn : ∀ m, (addS str0 m).n = m.length := fun m => by rw [addS_n]; simp [str0]
  have l0 := fun m => strC_len (hSb m)
  refine ⟨l0 _, hold_intro ⟨[], Nat, fun i => ⟨32, 2, [(17, .int .i64 i), (16, .int .i64 parts.length), (15, .sl 1 parts.length (parts.map D.str)), (5, .ptr 1 0), (4, .ptr 0 0)],
    [(1, strC (addS str0 (tagB t :: (parts.take i).flatMap encB))), (0, (List.replicate 16 (0 : UInt8)).map bD)]⟩, fun i => i ≤ parts.length, fun i => parts.length - i, ?_, ?_⟩⟩
  · (simp -dsimp only [↓z_ad_nil, ↓z_wk, ↓z_wkE_cons, ↓lkW_cons, ↓reduceIte, D.int.injEq, true_and, Nat.reduceEqDiff, ↓z_wkE_nil, and_self, and_true, ↓z_wkO_cons, ↓lkoW_cons, reduceCtorEq, ↓z_wkO_nil]); (try simp only [Int.toNat_natCast, Nat.mul_one, Bool.or_false, Bool.false_or, Bool.or_self, Bool.or_true])
    exact ⟨0, by omega, rfl, rfl, rfl⟩
  rintro i hi
  obtain ⟨m, hm⟩ : ∃ m, tagB t :: (parts.take i).flatMap encB = m := ⟨_, rfl⟩
  have hml : m.length ≤ 1000000001 := by rw [← hm, List.length_cons]; have := fm_le parts i; omega
  have l1 := l0 m
  have t1 : List.take 73 (List.drop 0 (strC (addS str0 m))) = strC (addS str0 m) := List.take_of_length_le (by rw [List.drop_zero]; omega)
  by_cases h : i < parts.length
  · have hx := hp _ (List.getElem_mem h)
    have hs := fm_s h
    have hle := fm_le parts (i + 1)
    rw [hs, List.length_append] at hle
    have hm' : tagB t :: (parts.take (i + 1)).flatMap encB = m ++ encB parts[i] := by rw [hs, ← hm]; rfl
    (simp -dsimp only [↓z_seq, ↓z_region, ↓z_ops_plain, ↓z_binOp, ↓evW_tmp, ↓lkW_cons, ↓reduceIte, Nat.reduceEqDiff, ↓z_bn_lss, ↓z_put, Nat.reduceLT, ↓z_ops_nil, ↓z_seq_nrm, ↓z_cond, ↓z_cnd, ↓z_gdt, ↓z_skip, ↓z_block, ↓z_indexAddr, ↓y_ty82, ↓z_elTy_sl, ↓y_sz9, ↓z_ix_sl, ↓z_load, ↓y_ty9, ↓z_agTy_str, ↓loadW_rop, ↓z_rd_f, ↓z_nth_str, ↓z_assign, ↓z_region_d, ↓y_mix, true_and, Nat.mul_one, ↓z_exit, ↓z_seq_ext, ↓z_lp_ext, ↓z_blk_ext, ↓y_ty99, ↓y_sz99, ↓z_agTy_st, ↓loadW_ptr, ↓lkoW_cons, ↓z_rd_t, Nat.zero_add, hm, ↓z_callv, ↓evW_func, ↓z_evL_cons, ↓z_evL_nil, ↓z_fun0, ↓z_coeL_cons, ↓z_coe_oag, ↓z_coeL_nil, z_sub, z_ite]); (try simp only [Int.toNat_natCast])
    refine ⟨fun _ => ⟨by omega, by omega, by omega, rgn_d (by decide +kernel) ?_⟩, fun hh => absurd h (by omega)⟩
    (simp -dsimp only [↓z_drw_load, ↓z_drwS, ↓z_grd_none, ↓z_withE, ↓z_rd_tmp, ↓lkW_cons, Nat.reduceEqDiff, ↓reduceIte, ↓z_rd_nil, ↓z_ap_cons, ↓z_ap_nil, ↓z_or_load, ↓z_load, ↓evW_tmp, ↓y_ty99, ↓y_sz99, ↓z_agTy_st, ↓loadW_ptr, ↓lkoW_cons, ↓z_rd_t, Nat.zero_add, hm, l1, Nat.reduceLeDiff, and_true, z_sub, t1, true_and, ↓z_exD_all, ↓z_exD_eq, ↓z_put, Nat.reduceLT, ↓z_drwK, ↓z_drw_move, ↓z_or_move, ↓z_move, Nat.mul_one, ↓z_drw_callv, ↓z_rd_func]); (try simp only [Int.toNat_natCast, Nat.mul_one, Bool.or_false, Bool.false_or, Bool.or_self, Bool.or_true])
    refine ex_mk (.sl 1 (encB parts[i]).length ((encB parts[i]).map bD)) (fun E => by (simp -dsimp only [↓z_ap_cons, ↓z_ap_nil, ↓z_callv, ↓evW_func, ↓z_evL_cons, ↓evW_tmp, ↓lkW_cons, ↓reduceIte, ↓z_evL_nil, ↓z_fun0, ↓z_coeL_cons, ↓z_coe_str, ↓z_coeL_nil]); (try simp only [Int.toNat_natCast, Nat.mul_one, Bool.or_false, Bool.false_or, Bool.or_self, Bool.or_true]); exact call_fn (fn_Bytes GH _ hx).fn fun _ => ⟨rfl, rfl⟩) ?_
    (simp -dsimp only [↓z_put, Nat.reduceLT, ↓z_drwK, ↓z_drw_convert, ↓z_drwS, ↓z_grd_none, ↓z_withE, ↓z_rd_tmp, ↓lkW_cons, ↓reduceIte, ↓z_rd_nil, ↓z_ap_cons, ↓z_ap_nil, ↓z_or_convert, ↓y_ty78, ↓y_ty9, ↓z_cvR_sl, ↓z_convert, ↓evW_tmp, ↓z_cvt_bs, ↓y_ty5, ↓z_u8, ↓z_cv_bs_sl, ↓bsW_map, hm, and_true, true_and, ↓z_exD_all, ↓z_exD_eq, ↓z_drw_callv, ↓z_rd_func, Nat.reduceEqDiff]); (try simp only [Int.toNat_natCast, Nat.mul_one, Bool.or_false, Bool.false_or, Bool.or_self, Bool.or_true])
    have l2 := l0 (m ++ encB parts[i])
    have t2 : List.take 0 (strC (addS str0 m)) ++ strC (addS str0 (m ++ encB parts[i])) ++ List.drop 73 (strC (addS str0 m)) = strC (addS str0 (m ++ encB parts[i])) := by
      rw [List.take_zero, List.nil_append, List.drop_of_length_le (by omega), List.append_nil]
    refine ex_mk (.agg (strC (addS str0 (m ++ encB parts[i])))) (fun E => by (simp -dsimp only [↓z_ap_cons, ↓z_ap_nil, ↓z_callv, ↓evW_func, ↓z_evL_cons, ↓evW_tmp, ↓lkW_cons, ↓reduceIte, Nat.reduceEqDiff, ↓z_evL_nil, ↓z_fun0, ↓z_coeL_cons, ↓z_coe_oag, hm, ↓z_coe_str, ↓z_coeL_nil, coe_str]); (try simp only [Int.toNat_natCast, Nat.mul_one, Bool.or_false, Bool.false_or, Bool.or_self, Bool.or_true]); exact call_fn ((fn_Add (addS str0 m) (hSb m) (encB parts[i]) (by rw [hSn]; omega)).out (by rw [addS_app])) fun _ => ⟨rfl, rfl⟩) ?_
    (simp -dsimp only [↓z_put, Nat.reduceLT, ↓z_drwK, ↓z_drw_store, ↓z_ops_plain, ↓z_store, ↓evW_tmp, ↓lkW_cons, Nat.reduceEqDiff, ↓reduceIte, ↓y_sz99, ↓z_cl_agg, l2, ↓z_store_ptr, ↓lkoW_cons, Nat.zero_add, hm, l1, Nat.reduceLeDiff, ↓z_so_cons, ↓z_put_none, ↓z_ops_nil, ↓z_blk_nrm, ↓z_seq_nrm, ↓z_region, ↓z_binOp, ↓evW_const, ↓constW_int, inR_i64, Int.reduceNeg, Int.reduceLE, and_self, ↓z_bn_add, ↓wrW_i64, ↓z_move, ↓z_lp_nrm, ↓z_wk, ↓z_wkE_cons, D.int.injEq, true_and, ↓z_wkE_nil, and_true, ↓z_wkO_cons, reduceCtorEq, ↓z_wkO_nil, z_sps, t2]); (try simp only [Int.toNat_natCast, Nat.mul_one, Bool.or_false, Bool.false_or, Bool.or_self, Bool.or_true])
    exact ⟨by omega, i + 1, by omega, by omega, by omega, by rw [hm']⟩
  · have hi' : i = parts.length := by omega
    have hme : inpL t parts = m := by rw [← hm, hi', List.take_length]; rfl
    have hls : sumS (addS str0 m) = sha m := rfl
    have lsh := sha_len m
    have tk : (List.take 16 (sha m)).length = 16 := by rw [List.length_take]; omega
    (simp -dsimp only [↓z_seq, ↓z_region, ↓z_ops_plain, ↓z_binOp, ↓evW_tmp, ↓lkW_cons, ↓reduceIte, Nat.reduceEqDiff, ↓z_bn_lss, ↓z_put, Nat.reduceLT, ↓z_ops_nil, ↓z_seq_nrm, ↓z_cond, ↓z_cnd, ↓z_gdt, ↓z_skip, ↓z_block, ↓z_indexAddr, ↓y_ty82, ↓z_elTy_sl, ↓y_sz9, ↓z_ix_sl, ↓z_load, ↓y_ty9, ↓z_agTy_str, ↓loadW_rop, ↓z_rd_f, ↓z_nth_str, ↓z_assign, ↓z_region_d, ↓y_mix, true_and, Nat.mul_one, ↓z_exit, ↓z_seq_ext, ↓z_lp_ext, ↓z_blk_ext, ↓y_ty99, ↓y_sz99, ↓z_agTy_st, ↓loadW_ptr, ↓lkoW_cons, ↓z_rd_t, Nat.zero_add, hm, ↓z_callv, ↓evW_func, ↓z_evL_cons, ↓z_evL_nil, ↓z_fun0, ↓z_coeL_cons, ↓z_coe_oag, ↓z_coeL_nil, z_sub, z_ite]); (try simp only [Int.toNat_natCast])
    refine ⟨fun hh => absurd hh (by omega), fun _ => ?_⟩
    rw [hm, t1, coe_str]
    refine ⟨by omega, call_wk ⟨32, 2, [(4, .ptr 0 0)], [(0, (List.replicate 16 (0 : UInt8)).map bD)]⟩ (by (simp -dsimp only [↓z_wk, ↓z_wkE_cons, ↓lkW_cons, Nat.reduceEqDiff, ↓reduceIte, ↓z_wkE_nil, and_self, ↓z_wkO_cons, ↓lkoW_cons, reduceCtorEq, ↓z_wkO_nil]); (try simp only [Int.toNat_natCast, Nat.mul_one, Bool.or_false, Bool.false_or, Bool.or_self, Bool.or_true])) (call0_fn ((fn_Sum (addS str0 m) (hSb m) (by rw [hSn]; omega)).out (by rw [hls])) fun _ => ?_)⟩
    (simp -dsimp only [↓z_put, Nat.reduceLT, ↓z_ops_plain, ↓z_alloc, ↓y_zr103, ↓z_new, ↓z_nm_cons, ↓z_nmC_bytes, ↓z_nm_nil, ↓z_pg_cons, ↓z_mn_agg, ↓z_mn_ptr, reduceCtorEq, ↓reduceIte, ↓z_pg_nil, ↓z_store, ↓evW_tmp, ↓lkW_cons, Nat.reduceEqDiff, ↓y_sz103, ↓z_cl_agg, List.length_map, lsh, ↓z_store_ptr, ↓lkoW_cons, Nat.zero_add, List.length_cons, List.length_nil, Nat.reduceAdd, Nat.reduceLeDiff, ↓spsW_cons, ↓drW_cons, Nat.reduceSub, ↓drW_nil, ↓z_cat_nil_r, ↓z_so_cons, ↓z_put_none, ↓z_ops_nil, ↓z_seq_nrm, ↓z_seq, ↓z_region, ↓z_slice, ↓z_evO_none, ↓z_bo_none, ↓z_evO_some, ↓evW_const, ↓constW_int, inR_i64, Int.reduceNeg, Int.reduceLE, and_self, ↓z_bo_some, ↓y_ty103, ↓z_seTy_arr, ↓y_sz5, ↓z_slc_ptr_nh, Nat.mul_one, maxLen_lit, ↓z_s2a, ↓y_ty40, ↓z_arTy, ↓z_s2a_osw, Int.reduceToNat, ↓z_load, ↓y_sz40, ↓z_agTy_arr, ↓loadW_ptr, ↓z_rd_t, ↓z_sub_map, ↓z_cl_oag, List.drop_zero, tk, ↓z_sps_map, ↓z_ret, ↓z_end_rt, resLW, res1W, List.take_zero, List.nil_append, ↓z_coeL_cons, ↓z_coeL_nil, ↓z_pack1, List.length_append, List.length_drop, ↓z_coe_oag, ↓z_coeC_bytes, D.agg.injEq, true_and]); (try simp only [Int.toNat_natCast, Nat.mul_one, Bool.or_false, Bool.false_or, Bool.or_self, Bool.or_true])
    refine ⟨by decide, by decide, by decide, ?_⟩
    rw [show List.drop 16 (List.replicate 16 (0 : UInt8)) = [] from rfl, List.append_nil, List.take_take, ofD, hme]; rfl
end Go.Abs
end
