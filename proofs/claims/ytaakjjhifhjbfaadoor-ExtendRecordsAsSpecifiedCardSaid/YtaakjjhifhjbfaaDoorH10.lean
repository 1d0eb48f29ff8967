/-
  HASH, tenth walks: keyed hashes.
-/
import Derived.Test.YtaakjjhifhjbfaaDoorH9
namespace Go.Abs
open Go.Proofs
def keyB (key : List UInt8) : List UInt8 := if 64 < key.length then sha key else key
theorem keyB_len (key : List UInt8) : (keyB key).length ≤ 64 := by
  unfold keyB; split
  · rw [sha_len]; omega
  · omega
def keyZ (key : List UInt8) : List UInt8 := keyB key ++ List.replicate (64 - (keyB key).length) 0
theorem keyZ_len (key : List UInt8) : (keyZ key).length = 64 := by
  have := keyB_len key
  unfold keyZ; rw [List.length_append, List.length_replicate]; omega
def padK (key : List UInt8) (x : UInt8) : List UInt8 := (keyZ key).map (· ^^^ x)
theorem padK_len (key : List UInt8) (x : UInt8) : (padK key x).length = 64 := by unfold padK; rw [List.length_map, keyZ_len]
def hmacL (key m : List UInt8) : List UInt8 := sha (padK key 0x5c ++ sha (padK key 0x36 ++ m))
theorem u8_xor (a b : UInt8) : bits .xor .u8 (a.toNat : Int) (b.toNat : Int) = ((a ^^^ b).toNat : Int) := by
  show IntKind.u8.wrap ((BitVec.ofInt 8 (a.toNat : Int) ^^^ BitVec.ofInt 8 (b.toNat : Int)).toNat : Int) = _
  have ha := a.toNat_lt
  have hb := b.toNat_lt
  rw [BitVec.toNat_xor, BitVec.ofInt_natCast, BitVec.ofInt_natCast, BitVec.toNat_ofNat, BitVec.toNat_ofNat, Nat.mod_eq_of_lt ha, Nat.mod_eq_of_lt hb, IntKind.wrap_u8, UInt8.toNat_xor]
  have : a.toNat ^^^ b.toNat < 2 ^ 8 := Nat.xor_lt_two_pow ha hb
  omega
/-- A block whose first bytes are combined. -/
def xoK (z : List UInt8) (x : UInt8) (i : Nat) : List UInt8 := (z.take i).map (· ^^^ x) ++ z.drop i
theorem xoK_len {z : List UInt8} {x : UInt8} {i : Nat} : (xoK z x i).length = z.length := by simp [xoK]; omega
theorem xoK_at {z : List UInt8} {x : UInt8} {i : Nat} (h : i < z.length) (h2 : i < (xoK z x i).length) : (xoK z x i)[i] = z[i] := by
  have e : (xoK z x i)[i]? = z[i]? := by
    unfold xoK
    rw [List.getElem?_append_right (by simp; omega), List.length_map, List.length_take, List.getElem?_drop]
    congr 1; omega
  rw [List.getElem?_eq_getElem h2, List.getElem?_eq_getElem h] at e
  exact Option.some.inj e
theorem xoK_s {z : List UInt8} {x : UInt8} {i : Nat} (h : i < z.length) : (xoK z x i).take i ++ [z[i] ^^^ x] ++ (xoK z x i).drop (i + 1) = xoK z x (i + 1) := by
  have l : ((z.take i).map (· ^^^ x)).length = i := by rw [List.length_map, List.length_take]; omega
  unfold xoK
  rw [List.take_left' l, List.drop_append, List.drop_of_length_le (by omega), l, List.take_add_one, List.getElem?_eq_getElem h, List.map_append]
  simp
theorem xoK_end {z : List UInt8} {x : UInt8} {n : Nat} (h : z.length ≤ n) : xoK z x n = z.map (· ^^^ x) := by
  unfold xoK; rw [List.take_of_length_le h, List.drop_of_length_le h, List.append_nil]
theorem cp_key (k : List UInt8) (h : k.length ≤ 64) : List.take 0 ((List.replicate 64 (0 : UInt8)).map bD) ++ List.take (min k.length 64) (k.map bD) ++ List.drop (min (min k.length 64) k.length) ((List.replicate 64 (0 : UInt8)).map bD) = (k ++ List.replicate (64 - k.length) 0).map bD := by
  rw [show min k.length 64 = k.length by omega, show min k.length k.length = k.length by omega, List.take_zero, List.nil_append, List.take_of_length_le (by rw [List.length_map]; omega), ← List.map_drop, List.drop_replicate, ← List.map_append]
theorem zr_blk (k : List D → Prop) : zeroW Tryd.prog 100 k = k ((List.replicate 64 (0 : UInt8)).map bD) := by rw [y_zr100]; rfl
set_option maxRecDepth 100000 in
set_option maxHeartbeats 8000000 in
theorem fn_pad (key : List UInt8) (x : UInt8) (hk : key.length ≤ 10000000000) : Fn GH Tryd.prog 73 [.str key, .int .u8 x.toNat] (.str (padK key x)) := by
  refine Fn.mk (c := _) Tryd.func73 rfl rfl Tryd.ntmps73 Tryd.results73 ?_
  have lz : (List.replicate 64 (0 : UInt8)).length = 64 := by decide
  have lk := keyZ_len key
  (simp -dsimp only [bodyW, List.length_cons, List.length_nil, Nat.zero_add, Nat.reduceAdd, Nat.reduceLeDiff, wfL, ↓z_seq, ↓z_region, ↓z_ops_plain, ↓z_assign, ↓evW_const, ↓constW_string, maxLen_lit, ↓z_put, Nat.reduceLT, ↓z_ops_nil, ↓z_seq_nrm, ↓z_move, ↓evW_tmp, ↓lkW_cons, reduceCtorEq, ↓reduceIte, ↓z_lk_env, ↓z_callb, ↓z_evL_cons, ↓z_evL_nil, ↓z_len, ↓y_ty9, ↓z_ln_str, ↓z_binOp, ↓constW_int, inR_i64, Int.reduceNeg, Int.reduceLE, and_self, ↓z_bn_gtr, ↓z_cond, ↓z_cnd, ↓z_gdt, ↓z_convert, ↓y_ty27, ↓z_cvt_sb, ↓y_ty5, ↓z_u8, ↓z_cv_sb, ↓z_new, ↓z_nm_nil, ↓z_pg_cons, ↓z_mn_str, ↓z_mn_bool, ↓z_mn_int, ↓z_pg_env, ↓z_pg_env0, ↓z_callv, ↓evW_func, ↓z_fun0, ↓z_coeL_cons, ↓z_coe_osl, ↓lkoW_cons, ↓z_allP_bytes, List.length_map, Nat.mul_one, ↓z_coeL_nil, true_and, ↓z_skip, ↓z_alloc, ↓zr_blk, ↓z_slice, ↓z_evO_none, ↓z_bo_none, ↓y_ty100, ↓z_seTy_arr, ↓y_sz5, ↓z_slc_ptr_nn, lz, Nat.reduceEqDiff, ↓z_copy, ↓z_slTy, ↓z_src_str, ↓z_cpy_osw, ↓z_spl, List.length_take, ↓z_so_cons, ↓z_block, ↓z_loop, z_sps, z_ite])
  intro _ _
  refine ⟨fun h => ⟨by omega, ?_⟩, fun h => ?_⟩
  · refine call_fnL (fn_hSum key hk) (flS_bytes _) fun _ => ?_
    have ls := sha_len key
    have ek : keyB key = sha key := if_pos (by omega)
    (simp -dsimp only [↓z_put, Nat.reduceLT, ↓z_ops_plain, ↓z_alloc, ↓y_zr107, ↓z_new, ↓z_nm_cons, ↓z_nmC_bytes, ↓z_nm_nil, Nat.zero_add, ↓z_pg_cons, ↓z_mn_agg, ↓z_mn_osl, reduceCtorEq, ↓reduceIte, ↓z_mn_str, ↓z_mn_bool, ↓z_mn_int, ↓z_pg_nil, ↓z_store, ↓evW_tmp, ↓lkW_cons, Nat.reduceEqDiff, ↓y_sz107, ↓z_cl_agg, List.length_map, ls, ↓z_store_ptr, ↓lkoW_cons, List.length_cons, List.length_nil, Nat.reduceAdd, Nat.reduceLeDiff, ↓spsW_cons, ↓drW_cons, Nat.reduceSub, ↓drW_nil, ↓z_cat_nil_r, ↓z_so_cons, ↓z_put_none, ↓z_ops_nil, ↓z_seq_nrm, ↓z_region, ↓z_slice, ↓z_evO_none, ↓z_bo_none, ↓y_ty107, ↓z_seTy_arr, ↓y_sz5, ↓z_slc_ptr_nn, Nat.mul_one, maxLen_lit, ↓z_convert, ↓y_ty27, ↓y_ty9, ↓z_cvt_bs, ↓y_ty5, ↓z_u8, ↓z_cv_bs_osw, ↓z_src_osw, ↓z_allP_bytes, ↓z_sub_map, ↓bsW_map, ↓z_assign, ↓z_seq, ↓zr_blk, ↓z_mn_osw, ↓z_mn_ptr, ↓y_ty100, lz, ↓z_move, ↓z_callb, ↓z_evL_cons, ↓z_evL_nil, ↓z_copy, ↓z_slTy, ↓z_src_str, ↓z_cpy_osw, ↓z_spl, List.drop_zero, List.length_take, ↓evW_const, ↓constW_int, inR_i64, Int.reduceNeg, Int.reduceLE, and_self, ↓z_block, ↓z_loop, true_and, z_sps])
    refine hold_intro ⟨[], Nat, fun i => ⟨31, 3, [(19, .int .i64 i), (6, .ptr 2 0), (1, .int .u8 x.toNat)], [(2, (xoK (keyZ key) x i).map bD)]⟩, fun i => i ≤ 64, fun i => 64 - i, ?_, ?_⟩
    · (simp -dsimp only [↓z_ad_nil, ↓z_wk, ↓z_wkE_cons, ↓lkW_cons, ↓reduceIte, D.int.injEq, true_and, Nat.reduceEqDiff, Nat.zero_add, Nat.reduceAdd, reduceCtorEq, ↓z_wkE_nil, and_self, and_true, ↓z_wkO_cons, ↓lkoW_cons, ↓z_wkO_nil]); (try simp only [Int.toNat_natCast, Nat.mul_one, Bool.or_false, Bool.false_or, Bool.or_self, Bool.or_true])
      exact ⟨0, by omega, rfl, by simp [xoK, keyZ, ek, ls]; rw [List.take_take, List.take_of_length_le (by simp [ls])]⟩
    rintro i hi
    have lx : (xoK (keyZ key) x i).length = 64 := by rw [xoK_len, lk]
    (simp -dsimp only [↓z_seq, ↓z_region, ↓z_ops_plain, ↓z_binOp, ↓evW_tmp, ↓lkW_cons, ↓reduceIte, ↓evW_const, ↓constW_int, inR_i64, Int.reduceNeg, Int.reduceLE, and_self, ↓z_bn_lss, ↓z_put, Nat.reduceLT, ↓z_ops_nil, ↓z_seq_nrm, ↓z_cond, ↓z_cnd, ↓z_gdt, ↓z_skip, ↓z_block, ↓z_move, Nat.reduceEqDiff, ↓z_assign, ↓z_indexAddr, ↓y_ty100, ↓z_elTy_arr, ↓y_sz5, ↓z_ix_ptr, ↓z_load, ↓y_ty5, ↓z_agTy_int, ↓loadW_ptr, ↓lkoW_cons, ↓z_rd_f, ↓z_nth_bytes, ↓z_bn_xor, ↓z_store, ↓z_cl_int, Nat.mul_one, Nat.zero_add, List.length_cons, List.length_nil, ↓z_store_ptr, List.length_map, lx, Nat.reduceLeDiff, ↓z_so_cons, ↓z_put_none, ↓z_blk_nrm, ↓z_bn_add, ↓wrW_i64, ↓z_lp_nrm, ↓z_wk, ↓z_wkE_cons, D.int.injEq, true_and, ↓z_wkE_nil, and_true, ↓z_wkO_cons, ↓z_wkO_nil, z_sps, ↓z_exit, ↓z_seq_ext, ↓z_lp_ext, ↓z_blk_ext, ↓z_slice, ↓z_evO_none, ↓z_bo_none, ↓z_seTy_arr, ↓z_slc_ptr_nn, maxLen_lit, ↓z_convert, ↓y_ty27, ↓y_ty9, ↓z_cvt_bs, ↓z_u8, ↓z_cv_bs_osw, ↓z_src_osw, ↓z_allP_bytes, ↓z_sub_map, ↓bsW_map, ↓z_ret, ↓z_end_rt, resLW, res1W, ↓z_coeL_cons, ↓z_coeL_nil, ↓z_pack1, ↓z_coe_str, D.str.injEq, z_ite]); (try simp only [Int.toNat_natCast])
    refine ⟨fun hlt => ?_, fun hge => ?_⟩
    · refine ⟨by omega, by omega, by omega, by omega, by omega, by omega, by omega, i + 1, by omega, by omega, by omega, ?_⟩
      have hi4 : i < (keyZ key).length := by omega
      rw [xoK_at hi4, u8_xor, ← xoK_s hi4, List.map_append, List.map_append, List.map_take, List.map_drop]; rfl
    · have : i = 64 := by omega
      subst this
      rw [xoK_end (by omega)] at lx ⊢
      rw [List.drop_zero, List.take_of_length_le (by omega)]; rfl
  · have ek : keyB key = key := if_neg (by omega)
    refine hold_intro ⟨[], Nat, fun i => ⟨31, 1, [(19, .int .i64 i), (6, .ptr 0 0), (1, .int .u8 x.toNat)], [(0, (xoK (keyZ key) x i).map bD)]⟩, fun i => i ≤ 64, fun i => 64 - i, ?_, ?_⟩
    · (simp -dsimp only [↓z_ad_nil, ↓z_wk, ↓z_wkE_cons, ↓lkW_cons, ↓reduceIte, D.int.injEq, true_and, Nat.reduceEqDiff, reduceCtorEq, Nat.zero_add, ↓z_wkE_nil, and_self, and_true, ↓z_wkO_cons, ↓lkoW_cons, ↓z_wkO_nil]); (try simp only [Int.toNat_natCast, Nat.mul_one, Bool.or_false, Bool.false_or, Bool.or_self, Bool.or_true])
      exact ⟨0, by omega, rfl, by rw [cp_key key (by omega)]; simp [xoK, keyZ, ek]⟩
    rintro i hi
    have lx : (xoK (keyZ key) x i).length = 64 := by rw [xoK_len, lk]
    (simp -dsimp only [↓z_seq, ↓z_region, ↓z_ops_plain, ↓z_binOp, ↓evW_tmp, ↓lkW_cons, ↓reduceIte, ↓evW_const, ↓constW_int, inR_i64, Int.reduceNeg, Int.reduceLE, and_self, ↓z_bn_lss, ↓z_put, Nat.reduceLT, ↓z_ops_nil, ↓z_seq_nrm, ↓z_cond, ↓z_cnd, ↓z_gdt, ↓z_skip, ↓z_block, ↓z_move, Nat.reduceEqDiff, ↓z_assign, ↓z_indexAddr, ↓y_ty100, ↓z_elTy_arr, ↓y_sz5, ↓z_ix_ptr, ↓z_load, ↓y_ty5, ↓z_agTy_int, ↓loadW_ptr, ↓lkoW_cons, ↓z_rd_f, ↓z_nth_bytes, ↓z_bn_xor, ↓z_store, ↓z_cl_int, Nat.mul_one, Nat.zero_add, List.length_cons, List.length_nil, ↓z_store_ptr, List.length_map, lx, Nat.reduceLeDiff, ↓z_so_cons, ↓z_put_none, ↓z_blk_nrm, ↓z_bn_add, ↓wrW_i64, ↓z_lp_nrm, ↓z_wk, ↓z_wkE_cons, D.int.injEq, true_and, ↓z_wkE_nil, and_true, ↓z_wkO_cons, ↓z_wkO_nil, z_sps, ↓z_exit, ↓z_seq_ext, ↓z_lp_ext, ↓z_blk_ext, ↓z_slice, ↓z_evO_none, ↓z_bo_none, ↓z_seTy_arr, ↓z_slc_ptr_nn, maxLen_lit, ↓z_convert, ↓y_ty27, ↓y_ty9, ↓z_cvt_bs, ↓z_u8, ↓z_cv_bs_osw, ↓z_src_osw, ↓z_allP_bytes, ↓z_sub_map, ↓bsW_map, ↓z_ret, ↓z_end_rt, resLW, res1W, ↓z_coeL_cons, ↓z_coeL_nil, ↓z_pack1, ↓z_coe_str, D.str.injEq, z_ite]); (try simp only [Int.toNat_natCast])
    refine ⟨fun hlt => ?_, fun hge => ?_⟩
    · refine ⟨by omega, by omega, by omega, by omega, by omega, by omega, by omega, i + 1, by omega, by omega, by omega, ?_⟩
      have hi4 : i < (keyZ key).length := by omega
      rw [xoK_at hi4, u8_xor, ← xoK_s hi4, List.map_append, List.map_append, List.map_take, List.map_drop]; rfl
    · have : i = 64 := by omega
      subst this
      rw [xoK_end (by omega)] at lx ⊢
      rw [List.drop_zero, List.take_of_length_le (by omega)]; rfl
set_option maxRecDepth 100000 in
set_option maxHeartbeats 8000000 in
theorem fn_block (key : List UInt8) (hk : key.length ≤ 10000000000) : Fn GK Tryd.prog 66 [.str key] (.sl 1 64 ((keyZ key).map bD)) := by
  refine Fn.mk (c := _) Tryd.func66 rfl rfl Tryd.ntmps66 Tryd.results66 ?_
  have lb := keyB_len key
  (simp -dsimp only [bodyW, List.length_cons, List.length_nil, Nat.zero_add, Nat.reduceLeDiff, wfL, ↓z_seq, ↓z_region, ↓z_ops_plain, ↓z_assign, ↓evW_const, ↓constW_nils, ↓z_put, Nat.reduceLT, ↓z_ops_nil, ↓z_seq_nrm, ↓z_move, ↓evW_tmp, ↓lkW_cons, reduceCtorEq, ↓reduceIte, ↓z_lk_env, ↓z_convert, ↓y_ty9, ↓y_ty27, ↓z_cvt_sb, ↓y_ty5, ↓z_u8, ↓z_cv_sb, maxLen_lit, ↓z_new, ↓z_nm_nil, ↓z_pg_cons, ↓z_mn_str, ↓z_mn_nils, ↓z_pg_env, ↓z_pg_env0, ↓z_callb, ↓z_evL_cons, ↓z_evL_nil, ↓z_len, ↓z_ln_str, ↓z_binOp, ↓constW_int, inR_i64, Int.reduceNeg, Int.reduceLE, and_self, ↓z_bn_gtr, ↓z_cond, ↓z_cnd, ↓z_gdt, ↓z_nm_cons, ↓z_nmC_bytes, ↓z_mn_bool, ↓z_mn_int, ↓z_mn_osl, ↓z_pg_nil, ↓z_callv, ↓evW_func, ↓z_fun0, ↓z_coeL_cons, ↓z_coe_osl, ↓lkoW_cons, ↓z_allP_bytes, List.length_map, Nat.mul_one, ↓z_coeL_nil, true_and, ↓z_skip, ↓z_block, ↓z_loop, z_ite])
  intro _
  refine ⟨by omega, fun h => ⟨by omega, ?_⟩, fun h => ?_⟩
  · refine call_fnL (fn_rSum key hk) (flS_bytes _) fun _ => ?_
    have ls := sha_len key
    have ek : keyB key = sha key := if_pos (by omega)
    (simp -dsimp only [↓z_put, Nat.reduceLT, ↓z_ops_plain, ↓z_alloc, ↓y_zr107, ↓z_new, ↓z_nm_cons, ↓z_nmC_bytes, ↓z_nm_nil, Nat.zero_add, Nat.reduceAdd, ↓z_pg_cons, ↓z_mn_agg, ↓z_mn_osl, Nat.reduceEqDiff, ↓reduceIte, ↓z_mn_str, ↓z_mn_bool, ↓z_mn_int, reduceCtorEq, ↓z_mn_nils, ↓z_pg_nil, ↓z_store, ↓evW_tmp, ↓lkW_cons, ↓y_sz107, ↓z_cl_agg, List.length_map, ls, ↓z_store_ptr, ↓lkoW_cons, List.length_cons, List.length_nil, Nat.reduceLeDiff, ↓spsW_cons, ↓drW_cons, Nat.reduceSub, ↓drW_nil, ↓z_cat_nil_r, ↓z_so_cons, ↓z_put_none, ↓z_ops_nil, ↓z_seq_nrm, ↓z_region, ↓z_load, ↓y_ty107, ↓z_agTy_arr, ↓loadW_ptr, ↓z_rd_t, ↓z_sub_map, ↓z_callv, ↓evW_func, ↓z_evL_cons, ↓z_evL_nil, ↓z_fun0, ↓z_coeL_cons, ↓z_coe_oag, ↓z_coeC_bytes, ↓z_coeL_nil, true_and])
    refine call_fn ((fn_Bytes32 GK (sha key) ls).inp (by rw [List.drop_zero, List.take_of_length_le (by omega)])) fun _ => ?_
    (simp -dsimp only [↓z_put, Nat.reduceLT, ↓z_ops_plain, ↓z_convert, ↓evW_tmp, ↓lkW_cons, ↓reduceIte, ↓y_ty9, ↓y_ty27, ↓z_cvt_sb, ↓y_ty5, ↓z_u8, ↓z_cv_sb, ls, maxLen_lit, Nat.reduceLeDiff, ↓z_new, ↓z_nm_cons, ↓z_nmC_bytes, ↓z_nm_nil, Nat.zero_add, Nat.reduceAdd, ↓z_pg_cons, ↓z_mn_str, ↓z_mn_oag, ↓z_mnL_bytes, ↓z_mn_ptr, Nat.reduceEqDiff, ↓z_mn_agg, ↓z_mn_osl, ↓z_mn_bool, ↓z_mn_int, reduceCtorEq, ↓z_mn_nils, ↓z_pg_nil, ↓z_assign, ↓z_ops_nil, ↓z_seq_nrm, ↓z_seq, ↓z_block, ↓z_loop, true_and])
    refine hold_intro ⟨[], Nat, fun i => ⟨23, 4, [(3, .osl 3 1 ((keyB key).length + i))], [(3, (keyB key ++ List.replicate i 0).map bD)]⟩, fun i => (keyB key).length + i ≤ 64, fun i => 64 - i, ?_, ?_⟩
    · (simp -dsimp only [↓z_ad_nil, ek, ↓z_wk, ↓z_wkE_cons, ↓lkW_cons, ↓reduceIte, Nat.zero_add, Nat.reduceAdd, D.osl.injEq, true_and, ↓z_wkE_nil, and_true, ↓z_wkO_cons, ↓lkoW_cons, ↓z_wkO_nil]); (try simp only [Int.toNat_natCast, Nat.mul_one, Bool.or_false, Bool.false_or, Bool.or_self, Bool.or_true])
      exact ⟨0, by omega, by simp, by simp⟩
    rintro i hi
    (simp -dsimp only [↓z_seq, ↓z_region, ↓z_ops_plain, ↓z_move, ↓evW_tmp, ↓lkW_cons, ↓reduceIte, ↓z_put, Nat.reduceLT, ↓z_callb, ↓z_evL_cons, ↓z_evL_nil, ↓z_len, ↓y_ty27, ↓z_ln_osl, ↓z_binOp, ↓evW_const, ↓constW_int, inR_i64, Int.reduceNeg, Int.reduceLE, and_self, ↓z_bn_lss, ↓z_ops_nil, ↓z_seq_nrm, ↓z_cond, ↓z_cnd, ↓z_gdt, ↓z_skip, ↓z_block, Nat.reduceEqDiff, ↓z_buildSlice, ↓z_slTy, ↓y_sz5, Nat.mul_one, Nat.reduceLeDiff, maxLen_lit, ↓y_zr5, List.length_cons, List.length_nil, Nat.zero_add, ↓z_repL_s, ↓z_repL_0, ↓z_cat_nil_r, ↓z_bld_cons, inR_u8, ↓z_cl_int, ↓spsW_cons, ↓drW_cons, reduceCtorEq, ↓drW_nil, ↓z_bld_nil, ↓z_allP_cons, ↓z_isP_int, ↓z_allP_nil, ↓z_append, ↓z_nint_sl, ↓y_by5, ↓z_src_slx, ↓z_app_osl, ↓lkoW_cons, List.length_map, List.length_append, ↓z_nmC_bytes, ↓z_room, ↓z_pgo_cons, ↓z_pgc_nm, ↓z_pgo_nil, ↓z_pg_cons, ↓z_mn_slx, ↓z_mn_osl, ↓z_mn_bool, ↓z_mn_int, ↓z_pg_nil, ↓z_so_cons, ↓z_assign, ↓z_blk_nrm, ↓z_lp_nrm, ↓z_wk, ↓z_wkE_cons, D.osl.injEq, true_and, ↓z_wkE_nil, and_true, ↓z_wkO_cons, ↓z_wkO_nil, ↓z_exit, ↓z_seq_ext, ↓z_lp_ext, ↓z_blk_ext, ↓z_ret, ↓z_end_rt, resLW, res1W, ↓z_coeL_cons, ↓z_coeL_nil, ↓z_pack1, ↓z_coe_osl, ↓z_allP_bytes, D.sl.injEq, z_ite]); (try simp only [Int.toNat_natCast, Nat.mul_one, Bool.or_false, Bool.false_or, Bool.or_self, Bool.or_true])
    refine ⟨fun hl => ⟨by rw [List.length_replicate], by omega, by omega, i + 1, by omega, by omega, by omega, ?_⟩, fun hl => ⟨by rw [List.length_replicate], by omega, ?_⟩⟩
    · rw [List.replicate_succ', ← List.append_assoc, List.map_append (l₁ := keyB key ++ List.replicate i 0)]; rfl
    · have : i = 64 - (keyB key).length := by omega
      subst this; rfl
  · have ek : keyB key = key := if_neg (by omega)
    refine hold_intro ⟨[], Nat, fun i => ⟨23, 1, [(3, .osl 0 1 ((keyB key).length + i))], [(0, (keyB key ++ List.replicate i 0).map bD)]⟩, fun i => (keyB key).length + i ≤ 64, fun i => 64 - i, ?_, ?_⟩
    · (simp -dsimp only [↓z_ad_nil, ek, ↓z_wk, ↓z_wkE_cons, ↓lkW_cons, Nat.reduceEqDiff, ↓reduceIte, D.osl.injEq, true_and, ↓z_wkE_nil, and_true, ↓z_wkO_cons, ↓lkoW_cons, ↓z_wkO_nil]); (try simp only [Int.toNat_natCast, Nat.mul_one, Bool.or_false, Bool.false_or, Bool.or_self, Bool.or_true])
      exact ⟨0, by omega, rfl, by simp⟩
    rintro i hi
    (simp -dsimp only [↓z_seq, ↓z_region, ↓z_ops_plain, ↓z_move, ↓evW_tmp, ↓lkW_cons, ↓reduceIte, ↓z_put, Nat.reduceLT, ↓z_callb, ↓z_evL_cons, ↓z_evL_nil, ↓z_len, ↓y_ty27, ↓z_ln_osl, ↓z_binOp, ↓evW_const, ↓constW_int, inR_i64, Int.reduceNeg, Int.reduceLE, and_self, ↓z_bn_lss, ↓z_ops_nil, ↓z_seq_nrm, ↓z_cond, ↓z_cnd, ↓z_gdt, ↓z_skip, ↓z_block, Nat.reduceEqDiff, ↓z_buildSlice, ↓z_slTy, ↓y_sz5, Nat.mul_one, Nat.reduceLeDiff, maxLen_lit, ↓y_zr5, List.length_cons, List.length_nil, Nat.zero_add, ↓z_repL_s, ↓z_repL_0, ↓z_cat_nil_r, ↓z_bld_cons, inR_u8, ↓z_cl_int, ↓spsW_cons, ↓drW_cons, reduceCtorEq, ↓drW_nil, ↓z_bld_nil, ↓z_allP_cons, ↓z_isP_int, ↓z_allP_nil, ↓z_append, ↓z_nint_sl, ↓y_by5, ↓z_src_slx, ↓z_app_osl, ↓lkoW_cons, List.length_map, List.length_append, ↓z_nmC_bytes, ↓z_room, ↓z_pgo_cons, ↓z_pgc_nm, ↓z_pgo_nil, ↓z_pg_cons, ↓z_mn_slx, ↓z_mn_osl, ↓z_mn_bool, ↓z_mn_int, ↓z_pg_nil, ↓z_so_cons, ↓z_assign, ↓z_blk_nrm, ↓z_lp_nrm, ↓z_wk, ↓z_wkE_cons, D.osl.injEq, true_and, ↓z_wkE_nil, and_true, ↓z_wkO_cons, ↓z_wkO_nil, ↓z_exit, ↓z_seq_ext, ↓z_lp_ext, ↓z_blk_ext, ↓z_ret, ↓z_end_rt, resLW, res1W, ↓z_coeL_cons, ↓z_coeL_nil, ↓z_pack1, ↓z_coe_osl, ↓z_allP_bytes, D.sl.injEq, z_ite]); (try simp only [Int.toNat_natCast, Nat.mul_one, Bool.or_false, Bool.false_or, Bool.or_self, Bool.or_true])
    refine ⟨fun hl => ⟨by rw [List.length_replicate], by omega, by omega, i + 1, by omega, by omega, by omega, ?_⟩, fun hl => ⟨by rw [List.length_replicate], by omega, ?_⟩⟩
    · rw [List.replicate_succ', ← List.append_assoc, List.map_append (l₁ := keyB key ++ List.replicate i 0)]; rfl
    · have : i = 64 - (keyB key).length := by omega
      subst this; rfl
set_option maxRecDepth 100000 in
set_option maxHeartbeats 8000000 in
theorem fn_with (G : Glob) (b m : List UInt8) (x : UInt8) (hb : b.length ≤ 1000000000) (hm : m.length ≤ 1000000000) :
    FnS G Tryd.prog 68 [.sl 1 b.length (b.map bD), .int .u8 x.toNat, .str m] 1 (b.length + m.length) ((b.map (· ^^^ x) ++ m).map bD) := by
  refine FnS.mk (c := _) Tryd.func68 rfl rfl Tryd.ntmps68 Tryd.results68 ?_
  (simp -dsimp only [bodyW, List.length_cons, List.length_nil, Nat.zero_add, Nat.reduceAdd, Nat.reduceLeDiff, wfL, ↓z_seq, ↓z_region, ↓z_ops_plain, ↓z_assign, ↓evW_const, ↓constW_nils, ↓z_put, Nat.reduceLT, ↓z_ops_nil, ↓z_seq_nrm, ↓constW_int, inR_i64, Int.reduceNeg, Int.reduceLE, and_self, ↓z_block, ↓z_loop, true_and])
  intro _ _ _
  refine hold_intro ⟨[(7, 1)], Nat, fun i => ⟨28, 1, [(8, .int .i64 i), (7, .osl 0 1 i), (0, .sl 1 b.length (b.map bD)), (1, .int .u8 x.toNat), (2, .str m)], [(0, ((b.take i).map (· ^^^ x)).map bD)]⟩, fun i => i ≤ b.length, fun i => b.length - i, ?_, ?_⟩
  · (simp -dsimp only [↓z_ad_cons, Nat.reduceLT, ↓lkW_cons, Nat.reduceEqDiff, ↓reduceIte, ↓z_nm_nil, ↓z_pg_cons, ↓z_mn_int, ↓z_mn_nils, ↓z_pg_env, ↓z_mn_sl, ↓z_mn_str, ↓z_pg_env0, ↓z_ad_nil, ↓z_wk, ↓z_wkE_cons, D.int.injEq, true_and, D.osl.injEq, reduceCtorEq, Nat.zero_add, Nat.reduceAdd, ↓z_wkE_nil, and_self, and_true, ↓z_wkO_cons, ↓lkoW_cons, ↓z_wkO_nil]); (try simp only [Int.toNat_natCast, Nat.mul_one, Bool.or_false, Bool.false_or, Bool.or_self, Bool.or_true])
    exact ⟨0, by omega, ⟨rfl, rfl⟩, rfl⟩
  rintro i hi
  have lt : ((b.take i).map (· ^^^ x)).length = i := by rw [List.length_map, List.length_take]; omega
  (simp -dsimp only [↓z_seq, ↓z_region, ↓z_ops_plain, ↓z_move, ↓evW_tmp, ↓lkW_cons, ↓reduceIte, ↓z_put, Nat.reduceLT, reduceCtorEq, ↓z_callb, ↓z_evL_cons, ↓z_evL_nil, ↓z_len, ↓y_ty27, ↓z_ln_sl, ↓z_binOp, Nat.reduceEqDiff, ↓z_bn_lss, ↓z_ops_nil, ↓z_seq_nrm, ↓z_cond, ↓z_cnd, ↓z_gdt, ↓z_skip, ↓z_block, ↓z_indexAddr, ↓z_elTy_sl, ↓y_sz5, ↓z_ix_sl, ↓z_load, ↓y_ty5, ↓z_agTy_int, ↓loadW_rop, ↓z_rd_f, ↓z_nth_bytes, ↓z_bn_xor, ↓z_buildSlice, ↓z_slTy, Nat.mul_one, Nat.reduceLeDiff, maxLen_lit, ↓y_zr5, List.length_cons, List.length_nil, Nat.zero_add, ↓z_repL_s, ↓z_repL_0, ↓z_cat_nil_r, ↓z_bld_cons, ↓z_cl_int, ↓spsW_cons, ↓drW_cons, ↓drW_nil, ↓z_bld_nil, ↓z_allP_cons, ↓z_isP_int, ↓z_allP_nil, and_self, ↓z_append, ↓z_nint_sl, ↓y_by5, ↓z_src_slx, ↓z_app_osl, ↓lkoW_cons, List.length_map, lt, ↓z_nmC_bytes, ↓z_room, ↓z_pgo_cons, ↓z_pgc_nm, ↓z_pgo_nil, ↓z_pg_cons, ↓z_mn_slx, ↓z_mn_int, ↓z_mn_rop, ↓z_mn_sl, ↓z_mn_osl, ↓z_mn_bool, ↓z_mn_str, ↓z_pg_nil, ↓z_so_cons, ↓z_assign, ↓z_blk_nrm, ↓evW_const, ↓constW_int, inR_i64, Int.reduceNeg, Int.reduceLE, ↓z_bn_add, ↓wrW_i64, ↓z_lp_nrm, ↓z_wk, ↓z_wkE_cons, D.int.injEq, true_and, D.osl.injEq, ↓z_wkE_nil, and_true, ↓z_wkO_cons, ↓z_wkO_nil, ↓z_exit, ↓z_seq_ext, ↓z_lp_ext, ↓z_blk_ext, ↓z_convert, ↓y_ty9, ↓z_cvt_sb, ↓z_u8, ↓z_cv_sb, ↓z_new, ↓z_nm_cons, ↓z_nm_nil, ↓z_src_osl, ↓z_allP_bytes, ↓z_ret, ↓z_end_rt, resLW, res1W, Nat.reduceAdd, ↓z_own_osl, ↓z_allP_app, List.length_append, z_ite]); (try simp only [Int.toNat_natCast])
  refine ⟨fun hl => ⟨by omega, by omega, by omega, by omega, by omega, by omega, i + 1, by omega, by omega, ⟨by omega, by omega⟩, ?_⟩, fun hl => ⟨by omega, by omega, by omega, by omega, ?_⟩⟩
  · have e1 : b.take (i + 1) = b.take i ++ [b[i]'(by omega)] := by simp
    rw [u8_xor, e1, List.map_append, List.map_append]; rfl
  · rw [List.take_of_length_le (by omega), List.map_append]
set_option maxRecDepth 100000 in
set_option maxHeartbeats 8000000 in
theorem fn_Hmac (key m : List UInt8) (hk : key.length ≤ 10000000000) (hm : m.length ≤ 10000000000) : Fn GH Tryd.prog 65 [.str key, .str m] (.agg ((hmacL key m).map bD)) := by
  have k1 := padK_len key 0x36
  have k2 := padK_len key 0x5c
  have p1 : Fn GH Tryd.prog 73 [.str key, .int .u8 54] (.str (padK key 0x36)) := (fn_pad key 0x36 hk).inp rfl
  have p2 : Fn GH Tryd.prog 73 [.str key, .int .u8 92] (.str (padK key 0x5c)) := (fn_pad key 0x5c hk).inp rfl
  have b0 : ∀ x, (addS str0 x).blk.length = 64 := fun x => by rw [addS_blk]; rfl
  have n0 : ∀ x, (addS str0 x).n = x.length := fun x => by rw [addS_n]; simp [str0]
  have hh : hmacL key m = sha (padK key 0x5c ++ sha (padK key 0x36 ++ m)) := rfl
  generalize padK key 0x36 = a at k1 p1 hh
  generalize padK key 0x5c = c at k2 p2 hh
  have ls := sha_len (a ++ m)
  have lt := sha_len (c ++ sha (a ++ m))
  have tk : List.take 32 (sha (a ++ m)) = sha (a ++ m) := List.take_of_length_le (by omega)
  rw [hh]
  refine Fn.mk (c := _) Tryd.func65 rfl rfl Tryd.ntmps65 Tryd.results65 ?_
  (simp -dsimp only [bodyW, List.length_cons, List.length_nil, Nat.zero_add, Nat.reduceAdd, Nat.reduceLeDiff, wfL, ↓z_seq, ↓z_region, ↓z_ops_plain, ↓z_alloc, ↓y_zr107, ↓z_new, ↓z_nm_nil, Nat.reduceLT, ↓z_pg_env, ↓z_mn_str, ↓z_pg_env0, ↓z_put, ↓z_ops_nil, ↓z_seq_nrm, ↓z_callv, ↓evW_func, ↓z_evL_nil, ↓z_fun0, ↓z_coeL_nil, true_and])
  intro _ _
  refine call_fn (fn_Begin GH) fun _ => ?_
  (simp -dsimp only [↓z_put, Nat.reduceLT, ↓z_ops_plain, ↓z_move, ↓evW_tmp, ↓lkW_cons, reduceCtorEq, ↓reduceIte, ↓z_callv, ↓evW_func, ↓z_evL_cons, ↓evW_const, ↓constW_int, inR_u8, Int.reduceLE, and_self, ↓z_evL_nil, ↓z_fun0, ↓z_coeL_cons, ↓z_coe_str, ↓z_coe_int, ↓z_coeL_nil, true_and])
  refine call_fn p1 fun _ => ?_
  (simp -dsimp only [↓z_put, Nat.reduceLT, ↓z_ops_plain, ↓z_callv, ↓evW_func, ↓z_evL_cons, ↓evW_tmp, ↓lkW_cons, Nat.reduceEqDiff, ↓reduceIte, ↓z_evL_nil, ↓z_fun0, ↓z_coeL_cons, ↓z_coe_agg, ↓z_coe_str, ↓z_coeL_nil, true_and])
  refine call_fn (fn_Add str0 rfl a (by simp [str0]; omega)) fun _ => ?_
  (simp -dsimp only [↓z_put, Nat.reduceLT, ↓z_ops_plain, ↓z_move, ↓evW_tmp, ↓lkW_cons, Nat.reduceEqDiff, ↓reduceIte, reduceCtorEq, Nat.zero_add, ↓z_callv, ↓evW_func, ↓z_evL_cons, ↓z_evL_nil, ↓z_fun0, ↓z_coeL_cons, ↓z_coe_agg, ↓z_coe_str, ↓z_coeL_nil, true_and]); (try simp only [Int.toNat_natCast, Nat.mul_one, Bool.or_false, Bool.false_or, Bool.or_self, Bool.or_true])
  refine call_fn ((fn_Add (addS str0 a) (b0 a) m (by rw [n0]; omega)).out (by rw [← addS_app])) fun _ => ?_
  (simp -dsimp only [↓z_put, Nat.reduceLT, ↓z_ops_plain, ↓z_callv, ↓evW_func, ↓z_evL_cons, ↓evW_tmp, ↓lkW_cons, ↓reduceIte, ↓z_evL_nil, ↓z_fun0, ↓z_coeL_cons, ↓z_coe_agg, ↓z_coeL_nil, true_and]); (try simp only [Int.toNat_natCast, Nat.mul_one, Bool.or_false, Bool.false_or, Bool.or_self, Bool.or_true])
  refine call_fn ((fn_Sum (addS str0 (a ++ m)) (b0 _) (by rw [n0, List.length_append]; omega)).out (show _ = D.agg ((sha (a ++ m)).map bD) from rfl)) fun _ => ?_
  (simp -dsimp only [↓z_put, Nat.reduceLT, ↓z_ops_plain, ↓z_alloc, ↓y_zr107, ↓z_new, ↓z_nm_cons, ↓z_nmC_cons, ↓z_mn'_int, ↓z_nmC_nil, and_self, ↓z_nm_nil, Nat.zero_add, ↓z_pg_cons, ↓z_mn_agg, ↓z_mn_str, ↓z_mn_ptr, reduceCtorEq, ↓reduceIte, ↓z_pg_nil, ↓z_store, ↓evW_tmp, ↓lkW_cons, Nat.reduceEqDiff, ↓y_sz107, ↓z_cl_agg, List.length_map, ls, ↓z_store_ptr, ↓lkoW_cons, List.length_cons, List.length_nil, Nat.reduceAdd, Nat.reduceLeDiff, ↓spsW_cons, ↓drW_cons, Nat.reduceSub, ↓drW_nil, ↓z_cat_nil_r, ↓z_so_cons, ↓z_put_none, ↓z_ops_nil, ↓z_seq_nrm, ↓z_seq, ↓z_region_d, ↓y_mix, true_and])
  refine rgn_d (by decide +kernel) ?_
  (simp -dsimp only [↓z_drw_callv, ↓z_grd_none, ↓z_withE, ↓z_rd_func, ↓z_rd_nil])
  refine ex_mk (.agg (strC str0)) (fun E => by (simp -dsimp only [↓z_ap_nil, ↓z_callv, ↓evW_func, ↓z_evL_nil, ↓z_fun0, ↓z_coeL_nil]); (try simp only [Int.toNat_natCast, Nat.mul_one, Bool.or_false, Bool.false_or, Bool.or_self, Bool.or_true]); exact call_fn (fn_Begin GH) fun _ => ⟨rfl, rfl⟩) ?_
  (simp -dsimp only [↓z_put, Nat.reduceLT, ↓z_drwK, ↓z_drw_move, ↓z_drwS, ↓z_grd_none, ↓z_withE, ↓z_rd_tmp, ↓lkW_cons, reduceCtorEq, ↓reduceIte, ↓z_rd_nil, ↓z_ap_cons, ↓z_ap_nil, ↓z_or_move, ↓z_move, ↓evW_tmp, Nat.zero_add, Nat.reduceAdd, and_true, ↓z_exD_all, ↓z_exD_eq, ↓z_drw_callv, ↓z_rd_func, ↓z_rd_const, true_and])
  refine ex_mk (.str c) (fun E => by (simp -dsimp only [↓z_ap_cons, ↓z_ap_nil, ↓z_callv, ↓evW_func, ↓z_evL_cons, ↓evW_tmp, ↓lkW_cons, ↓reduceIte, ↓evW_const, ↓constW_int, inR_u8, Int.reduceLE, and_self, ↓z_evL_nil, ↓z_fun0, ↓z_coeL_cons, ↓z_coe_str, ↓z_coe_int, ↓z_coeL_nil, true_and]); (try simp only [Int.toNat_natCast, Nat.mul_one, Bool.or_false, Bool.false_or, Bool.or_self, Bool.or_true]); exact call_fn p2 fun _ => ⟨rfl, rfl⟩) ?_
  (simp -dsimp only [↓z_put, Nat.reduceLT, ↓z_drwK, ↓z_drw_callv, ↓z_grd_none, ↓z_withE, ↓z_rd_func, ↓z_rd_tmp, ↓lkW_cons, Nat.reduceEqDiff, ↓reduceIte, ↓z_rd_nil, true_and]); (try simp only [Int.toNat_natCast, Nat.mul_one, Bool.or_false, Bool.false_or, Bool.or_self, Bool.or_true])
  refine ex_mk (.agg (strC (addS str0 c))) (fun E => by (simp -dsimp only [↓z_ap_cons, ↓z_ap_nil, ↓z_callv, ↓evW_func, ↓z_evL_cons, ↓evW_tmp, ↓lkW_cons, ↓reduceIte, Nat.reduceEqDiff, ↓z_evL_nil, ↓z_fun0, ↓z_coeL_cons, ↓z_coe_agg, ↓z_coe_str, ↓z_coeL_nil]); (try simp only [Int.toNat_natCast, Nat.mul_one, Bool.or_false, Bool.false_or, Bool.or_self, Bool.or_true]); exact call_fn (fn_Add str0 rfl c (by simp [str0]; omega)) fun _ => ⟨rfl, rfl⟩) ?_
  (simp -dsimp only [↓z_put, Nat.reduceLT, ↓z_drwK, ↓z_drw_slice, ↓z_drwS, ↓z_grd_none, ↓z_withE, ↓z_rd_tmp, ↓lkW_cons, Nat.reduceEqDiff, ↓reduceIte, ↓z_oLn, List.append_nil, Nat.zero_add, ↓z_ap_cons, ↓z_or_slice, ↓z_slice, ↓evW_tmp, ↓z_evO_none, ↓z_bo_none, ↓y_ty107, ↓z_seTy_arr, ↓y_sz5, ↓z_slc_ptr_nn, ↓lkoW_cons, Nat.mul_one, List.length_map, ls, Nat.reduceLeDiff, maxLen_lit, Nat.reduceAdd, and_true, true_and, ↓z_rd_nil, ↓z_ap_nil, ↓z_exD_all, ↓z_exD_eq, ↓z_drw_convert, ↓z_or_convert, ↓y_ty27, ↓y_ty9, ↓z_cvR_sl, ↓z_convert, ↓z_cvt_bs, ↓y_ty5, ↓z_u8, ↓z_cv_bs_osw, ↓z_src_osw, ↓z_allP_bytes, ↓z_sub_map, ↓bsW_map, List.drop_zero, tk, ↓z_drw_callv, ↓z_rd_func]); (try simp only [Int.toNat_natCast, Nat.mul_one, Bool.or_false, Bool.false_or, Bool.or_self, Bool.or_true])
  refine ex_mk (.agg (strC (addS str0 (c ++ sha (a ++ m))))) (fun E => by (simp -dsimp only [↓z_ap_cons, ↓z_ap_nil, ↓z_callv, ↓evW_func, ↓z_evL_cons, ↓evW_tmp, ↓lkW_cons, ↓reduceIte, Nat.reduceEqDiff, ↓z_evL_nil, ↓z_fun0, ↓z_coeL_cons, ↓z_coe_agg, ↓z_coe_str, ↓z_coeL_nil]); (try simp only [Int.toNat_natCast, Nat.mul_one, Bool.or_false, Bool.false_or, Bool.or_self, Bool.or_true]); exact call_fn ((fn_Add (addS str0 c) (b0 c) (sha (a ++ m)) (by rw [n0]; omega)).out (by rw [← addS_app])) fun _ => ⟨rfl, rfl⟩) ?_
  (simp -dsimp only [↓z_put, Nat.reduceLT, ↓z_drwK, ↓z_drw_callv, ↓z_grd_none, ↓z_withE, ↓z_rd_func, ↓z_rd_tmp, ↓lkW_cons, ↓reduceIte, ↓z_rd_nil, true_and]); (try simp only [Int.toNat_natCast, Nat.mul_one, Bool.or_false, Bool.false_or, Bool.or_self, Bool.or_true])
  refine ex_mk (.agg ((sha (c ++ sha (a ++ m))).map bD)) (fun E => by (simp -dsimp only [↓z_ap_cons, ↓z_ap_nil, ↓z_callv, ↓evW_func, ↓z_evL_cons, ↓evW_tmp, ↓lkW_cons, ↓reduceIte, ↓z_evL_nil, ↓z_fun0, ↓z_coeL_cons, ↓z_coe_agg, ↓z_coeL_nil]); (try simp only [Int.toNat_natCast, Nat.mul_one, Bool.or_false, Bool.false_or, Bool.or_self, Bool.or_true]); exact call_fn ((fn_Sum (addS str0 (c ++ sha (a ++ m))) (b0 _) (by rw [n0, List.length_append]; omega)).out (show _ = D.agg ((sha (c ++ sha (a ++ m))).map bD) from rfl)) fun _ => ⟨rfl, rfl⟩) ?_
  have tc : List.take 32 (sha (c ++ sha (a ++ m))) = sha (c ++ sha (a ++ m)) := List.take_of_length_le (by omega)
  (simp -dsimp only [↓z_put, Nat.reduceLT, ↓z_drwK, ↓z_drw_store, ↓z_ops_plain, ↓z_store, ↓evW_tmp, ↓lkW_cons, Nat.reduceEqDiff, ↓reduceIte, ↓y_sz107, ↓z_cl_agg, List.length_map, lt, ↓z_store_ptr, ↓lkoW_cons, Nat.zero_add, reduceCtorEq, List.length_cons, List.length_nil, Nat.reduceAdd, Nat.reduceLeDiff, ↓spsW_cons, ↓drW_cons, Nat.reduceSub, ↓drW_nil, ↓z_cat_nil_r, ↓z_so_cons, ↓z_put_none, ↓z_ops_nil, ↓z_seq_nrm, ↓z_ret, ↓z_end_rt, resLW, res1W, ↓y_ty107, ↓z_agTy_arr, ↓z_coeL_cons, ↓z_coeL_nil, ↓z_pack1, ↓loadW_ptr, ↓z_rd_t, ↓z_sub_map, ↓z_coe_oag, ↓z_coeC_bytes, List.drop_zero, tc, and_self]); (try simp only [Int.toNat_natCast, Nat.mul_one, Bool.or_false, Bool.false_or, Bool.or_self, Bool.or_true])
set_option maxRecDepth 100000 in
set_option maxHeartbeats 8000000 in
theorem fn_rHmac (key m : List UInt8) (hk : key.length ≤ 1000000000) (hm : m.length ≤ 1000000000) : Fn GK Tryd.prog 58 [.str key, .str m] (.agg ((hmacL key m).map bD)) := by
  have lz := keyZ_len key
  have p1 : Fn GK Tryd.prog 68 [.sl 1 64 ((keyZ key).map bD), .int .u8 54, .str m] (.sl 1 (padK key 0x36 ++ m).length ((padK key 0x36 ++ m).map bD)) := by
    have h := (fn_with GK (keyZ key) m 0x36 (by omega) hm).fn
    rw [lz] at h
    exact h.out (by rw [List.length_append, padK_len]; rfl)
  have p2 : ∀ x : List UInt8, x.length = 32 → Fn GK Tryd.prog 68 [.sl 1 64 ((keyZ key).map bD), .int .u8 92, .str x] (.sl 1 (padK key 0x5c ++ x).length ((padK key 0x5c ++ x).map bD)) := fun x hx => by
    have h := (fn_with GK (keyZ key) x 0x5c (by omega) (by omega)).fn
    rw [lz] at h
    exact h.out (by rw [List.length_append, padK_len]; rfl)
  have ls := sha_len (padK key 0x36 ++ m)
  have k1 := padK_len key 0x36
  have k2 := padK_len key 0x5c
  refine Fn.mk (c := _) Tryd.func58 rfl rfl Tryd.ntmps58 Tryd.results58 ?_
  (simp -dsimp only [bodyW, List.length_cons, List.length_nil, Nat.zero_add, Nat.reduceAdd, Nat.reduceLeDiff, wfL, ↓z_seq, ↓z_region, ↓z_ops_plain, ↓z_alloc, ↓y_zr107, ↓z_new, ↓z_nm_nil, Nat.reduceLT, ↓z_pg_env, ↓z_mn_str, ↓z_pg_env0, ↓z_put, ↓z_ops_nil, ↓z_seq_nrm, ↓z_move, ↓evW_tmp, ↓lkW_cons, reduceCtorEq, ↓reduceIte, ↓z_callv, ↓evW_func, ↓z_evL_cons, ↓z_evL_nil, ↓z_fun0, ↓z_coeL_cons, ↓z_coe_str, ↓z_coeL_nil, true_and])
  intro _ _
  refine call_fn (fn_block key (by omega)) fun _ => ?_
  (simp -dsimp only [↓z_put, Nat.reduceLT, ↓z_ops_plain, ↓z_assign, ↓evW_tmp, ↓lkW_cons, ↓reduceIte, ↓z_ops_nil, ↓z_seq_nrm, ↓z_seq, ↓z_region, ↓z_move, Nat.reduceEqDiff, reduceCtorEq, Nat.zero_add, ↓z_callv, ↓evW_func, ↓z_evL_cons, ↓evW_const, ↓constW_int, inR_u8, Int.reduceLE, and_self, ↓z_evL_nil, ↓z_fun0, ↓z_coeL_cons, ↓z_coe_sl, ↓z_coe_int, ↓z_coe_str, ↓z_coeL_nil, true_and])
  refine call_fn p1 fun _ => ?_
  (simp -dsimp only [↓z_put, Nat.reduceLT, ↓z_ops_plain, ↓z_callv, ↓evW_func, ↓z_evL_cons, ↓evW_tmp, ↓lkW_cons, ↓reduceIte, ↓z_evL_nil, ↓z_fun0, ↓z_coeL_cons, ↓z_coe_sl, ↓z_coeL_nil, true_and])
  refine call_fn (fn_rSum _ (by rw [List.length_append]; omega)) fun _ => ?_
  have tk : List.take 32 (sha (padK key 0x36 ++ m)) = sha (padK key 0x36 ++ m) := List.take_of_length_le (by omega)
  (simp -dsimp only [↓z_put, Nat.reduceLT, ↓z_ops_plain, ↓z_alloc, ↓y_zr107, ↓z_new, ↓z_nm_cons, ↓z_nmC_cons, ↓z_mn'_int, ↓z_nmC_nil, and_self, ↓z_nm_nil, Nat.zero_add, ↓z_pg_cons, ↓z_mn_agg, ↓z_mn_sl, ↓z_mn_str, ↓z_mn_ptr, reduceCtorEq, ↓reduceIte, ↓z_pg_nil, ↓z_store, ↓evW_tmp, ↓lkW_cons, Nat.reduceEqDiff, ↓y_sz107, ↓z_cl_agg, List.length_map, ls, ↓z_store_ptr, ↓lkoW_cons, List.length_cons, List.length_nil, Nat.reduceAdd, Nat.reduceLeDiff, ↓spsW_cons, ↓drW_cons, Nat.reduceSub, ↓drW_nil, ↓z_cat_nil_r, ↓z_so_cons, ↓z_put_none, ↓z_ops_nil, ↓z_seq_nrm, ↓z_seq, ↓z_region, ↓z_move, ↓z_load, ↓y_ty107, ↓z_agTy_arr, ↓loadW_ptr, ↓z_rd_t, ↓z_sub_map, ↓z_callv, ↓evW_func, ↓z_evL_cons, ↓z_evL_nil, ↓z_fun0, ↓z_coeL_cons, ↓z_coe_oag, ↓z_coeC_bytes, ↓z_coeL_nil, true_and])
  refine call_fn ((fn_Bytes32 GK (sha (padK key 0x36 ++ m)) ls).inp (by rw [List.drop_zero, tk])) fun _ => ?_
  (simp -dsimp only [↓z_put, Nat.reduceLT, ↓z_ops_plain, ↓z_callv, ↓evW_func, ↓z_evL_cons, ↓evW_tmp, ↓lkW_cons, Nat.reduceEqDiff, ↓reduceIte, ↓evW_const, ↓constW_int, inR_u8, Int.reduceLE, and_self, ↓z_evL_nil, ↓z_fun0, ↓z_coeL_cons, ↓z_coe_sl, ↓z_coe_int, ↓z_coe_str, ↓z_coeL_nil, true_and])
  refine call_fn (p2 (sha (padK key 0x36 ++ m)) ls) fun _ => ?_
  (simp -dsimp only [↓z_put, Nat.reduceLT, ↓z_ops_plain, ↓z_callv, ↓evW_func, ↓z_evL_cons, ↓evW_tmp, ↓lkW_cons, ↓reduceIte, ↓z_evL_nil, ↓z_fun0, ↓z_coeL_cons, ↓z_coe_sl, ↓z_coeL_nil, true_and])
  refine call_fn (fn_rSum _ (by rw [List.length_append]; omega)) fun _ => ?_
  have hh : hmacL key m = sha (padK key 0x5c ++ sha (padK key 0x36 ++ m)) := rfl
  have lt := sha_len (padK key 0x5c ++ sha (padK key 0x36 ++ m))
  have tc : List.take 32 (sha (padK key 0x5c ++ sha (padK key 0x36 ++ m))) = sha (padK key 0x5c ++ sha (padK key 0x36 ++ m)) := List.take_of_length_le (by omega)
  rw [hh]
  (simp -dsimp only [↓z_put, Nat.reduceLT, ↓z_ops_plain, ↓z_store, ↓evW_tmp, ↓lkW_cons, Nat.reduceEqDiff, ↓reduceIte, ↓y_sz107, ↓z_cl_agg, List.length_map, lt, ↓z_store_ptr, ↓lkoW_cons, Nat.zero_add, reduceCtorEq, List.length_cons, List.length_nil, Nat.reduceAdd, Nat.reduceLeDiff, ↓spsW_cons, ↓drW_cons, Nat.reduceSub, ↓drW_nil, ↓z_cat_nil_r, ↓z_so_cons, ↓z_put_none, ↓z_ops_nil, ↓z_seq_nrm, ↓z_ret, ↓z_end_rt, resLW, res1W, List.length_append, List.drop_zero, ↓y_ty107, ↓z_agTy_arr, ↓z_coeL_cons, ↓z_coeL_nil, ↓z_pack1, ↓loadW_ptr, ↓z_rd_t, ↓z_sub_map, ↓z_coe_oag, ↓z_coeC_bytes, tc, and_self]); (try simp only [Int.toNat_natCast, Nat.mul_one, Bool.or_false, Bool.false_or, Bool.or_self, Bool.or_true])
def msgL (parts : List (List UInt8)) : List UInt8 := parts.flatMap encB
def macD (key : List UInt8) (parts : List (List UInt8)) : List UInt8 := (hmacL key (msgL parts)).take 16
theorem hmac_len (key m : List UInt8) : (hmacL key m).length = 32 := sha_len _
theorem macD_len (key : List UInt8) (parts : List (List UInt8)) : (macD key parts).length = 16 := by unfold macD; rw [List.length_take, hmac_len]; rfl
set_option maxRecDepth 100000 in
set_option maxHeartbeats 8000000 in
theorem fn_Message (G : Glob) (parts : List (List UInt8)) (hp : ∀ x ∈ parts, x.length ≤ 1000000) (ht : (parts.flatMap encB).length ≤ 1000000000) :
    Fn G Tryd.prog 59 [.sl 1 parts.length (parts.map D.str)] (.str (msgL parts)) := by
  refine Fn.mk (c := _) Tryd.func59 rfl rfl Tryd.ntmps59 Tryd.results59 ?_
  (simp -dsimp only [bodyW, List.length_cons, List.length_nil, Nat.zero_add, Nat.reduceLeDiff, wfL, ↓z_seq, ↓z_region, ↓z_ops_plain, ↓z_assign, ↓evW_const, ↓constW_string, maxLen_lit, ↓z_put, Nat.reduceLT, ↓z_ops_nil, ↓z_seq_nrm, ↓constW_nils, ↓constW_int, inR_i64, Int.reduceNeg, Int.reduceLE, and_self, ↓z_block, ↓z_loop, true_and])
  intro hw
  have hw' : parts.length ≤ 9223372036854775807 := hw.1.1
  refine hold_intro ⟨[(3, 1)], Nat, fun i => ⟨20, 1, [(4, .int .i64 i), (3, .osl 0 1 ((parts.take i).flatMap encB).length), (0, .sl 1 parts.length (parts.map D.str))], [(0, ((parts.take i).flatMap encB).map bD)]⟩, fun i => i ≤ parts.length, fun i => parts.length - i, ?_, ?_⟩
  · (simp -dsimp only [↓z_ad_cons, Nat.reduceLT, ↓lkW_cons, Nat.reduceEqDiff, ↓reduceIte, ↓z_nm_nil, ↓z_pg_cons, ↓z_mn_int, ↓z_mn_nils, ↓z_mn_str, ↓z_pg_env, ↓z_mn_sl, ↓z_pg_env0, ↓z_ad_nil, ↓z_wk, ↓z_wkE_cons, D.int.injEq, true_and, D.osl.injEq, reduceCtorEq, ↓z_wkE_nil, and_self, and_true, ↓z_wkO_cons, ↓lkoW_cons, ↓z_wkO_nil]); (try simp only [Int.toNat_natCast, Nat.mul_one, Bool.or_false, Bool.false_or, Bool.or_self, Bool.or_true])
    exact ⟨0, by omega, ⟨rfl, rfl⟩, rfl⟩
  rintro i hi
  (simp -dsimp only [↓z_seq, ↓z_region, ↓z_ops_plain, ↓z_move, ↓evW_tmp, ↓lkW_cons, ↓reduceIte, ↓z_put, Nat.reduceLT, reduceCtorEq, ↓z_callb, ↓z_evL_cons, ↓z_evL_nil, ↓z_len, ↓y_ty23, ↓z_ln_sl, ↓z_binOp, Nat.reduceEqDiff, ↓z_bn_lss, ↓z_ops_nil, ↓z_seq_nrm, ↓z_cond, ↓z_cnd, ↓z_gdt, ↓z_skip, ↓z_block, ↓z_indexAddr, ↓z_elTy_sl, ↓y_sz9, ↓z_ix_sl, ↓z_load, ↓y_ty9, ↓z_agTy_str, ↓loadW_rop, ↓z_rd_f, ↓z_nth_str, ↓z_callv, ↓evW_func, ↓z_fun0, ↓z_coeL_cons, ↓z_coe_str, ↓z_coeL_nil, true_and, Nat.mul_one, ↓z_exit, ↓z_seq_ext, ↓z_lp_ext, ↓z_blk_ext, ↓z_convert, ↓y_ty27, ↓z_cvt_bs, ↓y_ty5, ↓z_u8, ↓z_cv_bs_osl, ↓z_src_osl, ↓lkoW_cons, ↓z_allP_bytes, List.length_map, ↓bsW_map, ↓z_assign, ↓z_ret, ↓z_end_rt, resLW, res1W, ↓z_pack1, D.str.injEq, z_ite]); (try simp only [Int.toNat_natCast])
  refine ⟨fun hlt => ?_, fun hge => by rw [List.take_of_length_le (by omega)]; rfl⟩
  · have hj : i < parts.length := by omega
    have hx := hp _ (List.getElem_mem hj)
    have hs := fm_s hj
    have hle := fm_le parts (i + 1)
    rw [hs, List.length_append] at hle
    refine ⟨by omega, by omega, hj, call_fn ((fn_refBytes G _ hx).fn.inp (by simp)) fun _ => ?_⟩
    (simp -dsimp only [↓z_put, Nat.reduceLT, ↓z_ops_plain, ↓z_callb, ↓z_evL_cons, ↓evW_tmp, ↓lkW_cons, Nat.reduceEqDiff, ↓reduceIte, ↓z_evL_nil, ↓z_append, ↓y_ty27, ↓z_slTy, ↓z_nint_sl, ↓y_sz5, ↓y_by5, ↓y_zr5, List.length_cons, List.length_nil, Nat.zero_add, ↓z_src_sl, ↓z_app_osl, ↓lkoW_cons, List.length_map, Nat.mul_one, ↓z_nmC_bytes, ↓z_room, maxLen_lit, ↓z_pgo_cons, ↓z_pgc_nm, ↓z_pgo_nil, ↓z_pg_cons, ↓z_mn_sl, ↓z_mn_str, ↓z_mn_rop, ↓z_mn_int, ↓z_mn_osl, ↓z_mn_bool, ↓z_pg_nil, ↓z_so_cons, ↓z_assign, ↓z_ops_nil, ↓z_blk_nrm, ↓z_seq_nrm, ↓z_region, ↓z_move, ↓z_binOp, ↓evW_const, ↓constW_int, inR_i64, Int.reduceNeg, Int.reduceLE, and_self, ↓z_bn_add, ↓wrW_i64, ↓z_lp_nrm, ↓z_wk, ↓z_wkE_cons, D.int.injEq, true_and, D.osl.injEq, reduceCtorEq, ↓z_wkE_nil, and_true, ↓z_wkO_cons, ↓z_wkO_nil]); (try simp only [Int.toNat_natCast, Nat.mul_one, Bool.or_false, Bool.false_or, Bool.or_self, Bool.or_true])
    exact ⟨by omega, by omega, by omega, i + 1, by omega, by omega, ⟨by omega, by rw [hs, List.length_append]⟩, by rw [hs, List.map_append]⟩
set_option maxRecDepth 100000 in
set_option maxHeartbeats 8000000 in
theorem fn_Mac (key : List UInt8) (parts : List (List UInt8)) (hk : key.length ≤ 1000000000) (hp : ∀ x ∈ parts, x.length ≤ 1000000) (ht : (parts.flatMap encB).length ≤ 1000000000) :
    Fn GH Tryd.prog 57 [.str key, .sl 1 parts.length (parts.map D.str)] (.agg ((macD key parts).map bD)) := by
  refine Fn.mk (c := _) Tryd.func57 rfl rfl Tryd.ntmps57 Tryd.results57 ?_
  (simp -dsimp only [bodyW, List.length_cons, List.length_nil, Nat.zero_add, Nat.reduceAdd, Nat.reduceLeDiff, wfL, ↓z_seq, ↓z_region, ↓z_ops_plain, ↓z_alloc, ↓y_zr39, ↓z_new, ↓z_nm_nil, Nat.reduceLT, ↓z_pg_env, ↓z_mn_str, ↓z_mn_sl, ↓z_pg_env0, ↓z_put, ↓z_ops_nil, ↓z_seq_nrm, ↓z_assign, ↓evW_const, ↓constW_string, maxLen_lit, ↓z_move, ↓evW_tmp, ↓lkW_cons, Nat.reduceEqDiff, ↓reduceIte, reduceCtorEq, ↓z_callb, ↓z_evL_cons, ↓z_evL_nil, ↓z_len, ↓y_ty23, ↓z_ln_sl, ↓constW_int, inR_i64, Int.reduceNeg, Int.reduceLE, and_self, ↓z_block, ↓z_loop, true_and])
  intro _ hw
  have hw' : parts.length ≤ 9223372036854775807 := hw.1.1
  refine hold_intro ⟨[], Nat, fun i => ⟨27, 1, [(11, .int .i64 i), (10, .int .i64 parts.length), (9, .sl 1 parts.length (parts.map D.str)), (5, .str ((parts.take i).flatMap encB)), (4, .ptr 0 0), (0, .str key)], [(0, (List.replicate 16 (0 : UInt8)).map bD)]⟩, fun i => i ≤ parts.length, fun i => parts.length - i, ?_, ?_⟩
  · (simp -dsimp only [↓z_ad_nil, ↓z_wk, ↓z_wkE_cons, ↓lkW_cons, ↓reduceIte, D.int.injEq, true_and, Nat.reduceEqDiff, D.str.injEq, reduceCtorEq, ↓z_wkE_nil, and_self, and_true, ↓z_wkO_cons, ↓lkoW_cons, ↓z_wkO_nil]); (try simp only [Int.toNat_natCast, Nat.mul_one, Bool.or_false, Bool.false_or, Bool.or_self, Bool.or_true])
    exact ⟨0, by omega, ⟨rfl, rfl⟩, rfl⟩
  rintro i hi
  (simp -dsimp only [↓z_seq, ↓z_region, ↓z_ops_plain, ↓z_binOp, ↓evW_tmp, ↓lkW_cons, ↓reduceIte, Nat.reduceEqDiff, ↓z_bn_lss, ↓z_put, Nat.reduceLT, ↓z_ops_nil, ↓z_seq_nrm, ↓z_cond, ↓z_cnd, ↓z_gdt, ↓z_skip, ↓z_block, ↓z_indexAddr, ↓y_ty23, ↓z_elTy_sl, ↓y_sz9, ↓z_ix_sl, ↓z_load, ↓y_ty9, ↓z_agTy_str, ↓loadW_rop, ↓z_rd_f, ↓z_nth_str, ↓z_assign, ↓z_move, ↓z_callv, ↓evW_func, ↓z_evL_cons, ↓z_evL_nil, ↓z_fun0, ↓z_coeL_cons, ↓z_coe_str, ↓z_coeL_nil, true_and, Nat.mul_one, ↓z_exit, ↓z_seq_ext, ↓z_lp_ext, ↓z_blk_ext, reduceCtorEq, z_ite]); (try simp only [Int.toNat_natCast])
  refine ⟨fun hlt => ?_, fun hge => ?_⟩
  · have hj : i < parts.length := by omega
    have hx := hp _ (List.getElem_mem hj)
    have hs := fm_s hj
    have hle := fm_le parts (i + 1)
    rw [hs, List.length_append] at hle
    refine ⟨by omega, by omega, hj, call_fn ((fn_Bytes GH _ hx).fn.inp (by simp)) fun _ => ?_⟩
    (simp -dsimp only [↓z_put, Nat.reduceLT, ↓z_ops_plain, ↓z_convert, ↓evW_tmp, ↓lkW_cons, ↓reduceIte, ↓y_ty27, ↓y_ty9, ↓z_cvt_bs, ↓y_ty5, ↓z_u8, ↓z_cv_bs_sl, ↓bsW_map, ↓z_binOp, Nat.reduceEqDiff, ↓z_bn_sadd, maxLen_lit, ↓z_assign, ↓z_ops_nil, ↓z_blk_nrm, ↓z_seq_nrm, ↓z_region, ↓evW_const, ↓constW_int, inR_i64, Int.reduceNeg, Int.reduceLE, and_self, ↓z_bn_add, ↓wrW_i64, ↓z_move, ↓z_lp_nrm, ↓z_wk, ↓z_wkE_cons, D.int.injEq, true_and, D.str.injEq, reduceCtorEq, ↓z_wkE_nil, and_true, ↓z_wkO_cons, ↓lkoW_cons, ↓z_wkO_nil]); (try simp only [Int.toNat_natCast, Nat.mul_one, Bool.or_false, Bool.false_or, Bool.or_self, Bool.or_true])
    exact ⟨by omega, by omega, i + 1, by omega, by omega, by omega, hs.symm⟩
  · have hm : (parts.take i).flatMap encB = msgL parts := by rw [List.take_of_length_le (by omega)]; rfl
    rw [hm]
    refine call_fn (fn_Hmac key (msgL parts) (by omega) (by unfold msgL; omega)) fun _ => ?_
    have lh := hmac_len key (msgL parts)
    have tk : (List.take 16 (hmacL key (msgL parts))).length = 16 := by rw [List.length_take, lh]; rfl
    (simp -dsimp only [↓z_put, Nat.reduceLT, ↓z_ops_plain, ↓z_alloc, ↓y_zr107, ↓z_new, ↓z_nm_cons, ↓z_nmC_bytes, ↓z_nm_nil, ↓z_pg_cons, ↓z_mn_agg, ↓z_mn_str, ↓z_mn_bool, ↓z_mn_int, ↓z_mn_sl, ↓z_mn_ptr, reduceCtorEq, ↓reduceIte, ↓z_pg_nil, ↓z_store, ↓evW_tmp, ↓lkW_cons, Nat.reduceEqDiff, ↓y_sz107, ↓z_cl_agg, List.length_map, lh, ↓z_store_ptr, ↓lkoW_cons, Nat.zero_add, List.length_cons, List.length_nil, Nat.reduceAdd, Nat.reduceLeDiff, ↓spsW_cons, ↓drW_cons, Nat.reduceSub, ↓drW_nil, ↓z_cat_nil_r, ↓z_so_cons, ↓z_put_none, ↓z_ops_nil, ↓z_seq_nrm, ↓z_seq, ↓z_region, ↓z_slice, ↓z_evO_none, ↓z_bo_none, ↓z_evO_some, ↓evW_const, ↓constW_int, inR_i64, Int.reduceNeg, Int.reduceLE, and_self, ↓z_bo_some, ↓y_ty107, ↓z_seTy_arr, ↓y_sz5, ↓z_slc_ptr_nh, Nat.mul_one, maxLen_lit, ↓z_s2a, ↓y_ty39, ↓z_arTy, ↓z_s2a_osw, Int.reduceToNat, ↓z_load, ↓y_sz39, ↓z_agTy_arr, ↓loadW_ptr, ↓z_rd_t, ↓z_sub_map, ↓z_cl_oag, List.drop_zero, tk, ↓z_sps_map, ↓z_ret, ↓z_end_rt, resLW, res1W, List.take_zero, List.nil_append, ↓z_coeL_cons, ↓z_coeL_nil, ↓z_pack1, List.length_append, List.length_drop, ↓z_coe_oag, ↓z_coeC_bytes, D.agg.injEq, true_and]); (try simp only [Int.toNat_natCast, Nat.mul_one, Bool.or_false, Bool.false_or, Bool.or_self, Bool.or_true])
    refine ⟨by decide, by decide, by decide, ?_⟩
    rw [show List.drop 16 (List.replicate 16 (0 : UInt8)) = [] from rfl, List.append_nil, List.take_take, macD]; rfl
set_option maxRecDepth 100000 in
set_option maxHeartbeats 8000000 in
theorem fn_rMac (key : List UInt8) (parts : List (List UInt8)) (hk : key.length ≤ 1000000000) (hp : ∀ x ∈ parts, x.length ≤ 1000000) (ht : (parts.flatMap encB).length ≤ 1000000000) :
    Fn GK Tryd.prog 42 [.str key, .sl 1 parts.length (parts.map D.str)] (.agg ((macD key parts).map bD)) := by
  have ls := hmac_len key (msgL parts)
  refine Fn.mk (c := _) Tryd.func42 rfl rfl Tryd.ntmps42 Tryd.results42 ?_
  (simp -dsimp only [bodyW, List.length_cons, List.length_nil, Nat.zero_add, Nat.reduceAdd, Nat.reduceLeDiff, wfL, ↓z_seq, ↓z_region, ↓z_ops_plain, ↓z_alloc, ↓y_zr39, ↓z_new, ↓z_nm_nil, Nat.reduceLT, ↓z_pg_env, ↓z_mn_str, ↓z_mn_sl, ↓z_pg_env0, ↓z_put, ↓z_ops_nil, ↓z_seq_nrm, ↓z_move, ↓evW_tmp, ↓lkW_cons, reduceCtorEq, ↓reduceIte, Nat.reduceEqDiff, ↓z_callv, ↓evW_func, ↓z_evL_cons, ↓z_evL_nil, ↓z_fun0, ↓z_coeL_cons, ↓z_coe_sl, ↓z_coeL_nil, true_and])
  intro _ _
  refine call_fn (fn_Message GK parts hp ht) fun _ => ?_
  (simp -dsimp only [↓z_put, Nat.reduceLT, ↓z_ops_plain, ↓z_callv, ↓evW_func, ↓z_evL_cons, ↓evW_tmp, ↓lkW_cons, Nat.reduceEqDiff, ↓reduceIte, ↓z_evL_nil, ↓z_fun0, ↓z_coeL_cons, ↓z_coe_str, ↓z_coeL_nil, true_and])
  refine call_fn (fn_rHmac key (msgL parts) (by omega) (by unfold msgL; omega)) fun _ => ?_
  have hm : macD key parts = (hmacL key (msgL parts)).take 16 := rfl
  generalize hmacL key (msgL parts) = h at ls hm
  (simp -dsimp only [↓z_put, Nat.reduceLT, ↓z_ops_plain, ↓z_alloc, ↓y_zr107, ↓z_new, ↓z_nm_cons, ↓z_nmC_cons, ↓z_mn'_int, ↓z_nmC_nil, and_self, ↓z_nm_nil, Nat.zero_add, ↓z_pg_cons, ↓z_mn_agg, ↓z_mn_str, ↓z_mn_sl, ↓z_mn_ptr, reduceCtorEq, ↓reduceIte, ↓z_pg_nil, ↓z_store, ↓evW_tmp, ↓lkW_cons, Nat.reduceEqDiff, ↓y_sz107, ↓z_cl_agg, List.length_map, ls, ↓z_store_ptr, ↓lkoW_cons, List.length_cons, List.length_nil, Nat.reduceAdd, Nat.reduceLeDiff, ↓spsW_cons, ↓drW_cons, Nat.reduceSub, ↓drW_nil, ↓z_cat_nil_r, ↓z_so_cons, ↓z_put_none, ↓z_ops_nil, ↓z_seq_nrm, ↓z_seq, ↓z_region, ↓z_build, ↓y_ty39, ↓z_blTy_arr, ↓y_zr39, ↓y_sz5, ↓z_bld_nil, ↓z_nmC_bytes, ↓z_mn_oag, ↓z_mnL_int, ↓z_mnL_nil, ↓y_sz39, ↓z_cl_oag, ↓z_assign, ↓evW_const, ↓constW_int, inR_i64, Int.reduceNeg, Int.reduceLE, ↓z_block, ↓z_loop, true_and])
  refine hold_intro ⟨[], Nat, fun i => ⟨23, 3, [(7, .int .i64 i), (6, .ptr 2 0), (5, .ptr 1 0), (4, .ptr 0 0)], [(2, (cpK h i).map bD), (1, h.map bD), (0, (List.replicate 16 (0 : UInt8)).map bD)]⟩, fun i => i ≤ 16, fun i => 16 - i, ?_, ?_⟩
  · (simp -dsimp only [↓z_ad_nil, ↓z_wk, ↓z_wkE_cons, ↓lkW_cons, ↓reduceIte, D.int.injEq, true_and, Nat.reduceEqDiff, Nat.zero_add, Nat.reduceAdd, ↓z_wkE_nil, and_self, and_true, ↓z_wkO_cons, ↓lkoW_cons, reduceCtorEq, ↓z_wkO_nil]); (try simp only [Int.toNat_natCast, Nat.mul_one, Bool.or_false, Bool.false_or, Bool.or_self, Bool.or_true])
    exact ⟨0, by omega, rfl, by simp [cpK]; rfl, rfl⟩
  rintro i hi
  have lc := cpK_len (h := h) (i := i) (by omega) hi
  by_cases h16 : i < 16
  · (simp -dsimp only [↓z_seq, ↓z_region, ↓z_ops_plain, ↓z_move, ↓evW_tmp, ↓lkW_cons, ↓reduceIte, ↓z_put, Nat.reduceLT, ↓z_binOp, ↓evW_const, ↓constW_int, inR_i64, Int.reduceNeg, Int.reduceLE, and_self, ↓z_bn_lss, ↓z_ops_nil, ↓z_seq_nrm, ↓z_cond, ↓z_cnd, ↓z_gdt, ↓z_skip, ↓z_block, Nat.reduceEqDiff, ↓z_indexAddr, ↓y_ty107, ↓z_elTy_arr, ↓y_sz5, ↓z_ix_ptr, ↓z_load, ↓y_ty5, ↓z_agTy_int, ↓loadW_ptr, ↓lkoW_cons, ↓z_rd_f, ↓z_nth_bytes, ↓y_ty39, ↓z_store, ↓z_cl_int, Nat.mul_one, Nat.zero_add, List.length_cons, List.length_nil, ↓z_store_ptr, List.length_map, lc, Nat.reduceLeDiff, ↓z_sps_byte, ↓z_so_cons, ↓z_put_none, ↓z_blk_nrm, ↓z_bn_add, ↓wrW_i64, ↓z_assign, ↓z_lp_nrm, ↓z_wk, ↓z_wkE_cons, D.int.injEq, true_and, ↓z_wkE_nil, and_true, ↓z_wkO_cons, reduceCtorEq, ↓z_wkO_nil, ls, ↓z_exit, ↓z_seq_ext, ↓z_lp_ext, ↓z_blk_ext, ↓y_sz39, ↓z_agTy_arr, ↓z_rd_t, ↓z_sub_map, ↓z_cl_oag, List.length_take, List.length_drop, Nat.reduceSub, ↓z_sps_map, ↓z_ret, ↓z_end_rt, resLW, res1W, ↓z_coeL_cons, ↓z_coeL_nil, ↓z_pack1, List.length_append, ↓z_coe_oag, ↓z_coeC_bytes, D.agg.injEq, z_ite]); (try simp only [Int.toNat_natCast])
    refine ⟨fun _ => ⟨by omega, by omega, by omega, by omega, by omega, by omega, by omega, i + 1, by omega, by omega, by omega, ?_⟩, fun hh => absurd hh (by omega)⟩
    rw [← cpK_s (by omega) h16, List.map_append, List.map_append, List.map_take, List.map_drop]
  · have : i = 16 := by omega
    subst this
    (simp -dsimp only [↓z_seq, ↓z_region, ↓z_ops_plain, ↓z_move, ↓evW_tmp, ↓lkW_cons, ↓reduceIte, ↓z_put, Nat.reduceLT, ↓z_binOp, ↓evW_const, ↓constW_int, inR_i64, Int.reduceNeg, Int.reduceLE, and_self, ↓z_bn_lss, ↓z_ops_nil, ↓z_seq_nrm, ↓z_cond, ↓z_cnd, ↓z_gdt, ↓z_skip, ↓z_block, Nat.reduceEqDiff, ↓z_indexAddr, ↓y_ty107, ↓z_elTy_arr, ↓y_sz5, ↓z_ix_ptr, ↓z_load, ↓y_ty5, ↓z_agTy_int, ↓loadW_ptr, ↓lkoW_cons, ↓z_rd_f, ↓z_nth_bytes, ↓y_ty39, ↓z_store, ↓z_cl_int, Nat.mul_one, Nat.zero_add, List.length_cons, List.length_nil, ↓z_store_ptr, List.length_map, lc, Nat.reduceLeDiff, ↓z_sps_byte, ↓z_so_cons, ↓z_put_none, ↓z_blk_nrm, ↓z_bn_add, ↓wrW_i64, ↓z_assign, ↓z_lp_nrm, Nat.reduceSub, ↓z_wk, ↓z_wkE_cons, D.int.injEq, true_and, ↓z_wkE_nil, and_true, ↓z_wkO_cons, reduceCtorEq, ↓z_wkO_nil, ↓z_exit, ↓z_seq_ext, ↓z_lp_ext, ↓z_blk_ext, ↓y_sz39, ↓z_agTy_arr, ↓z_rd_t, ↓z_sub_map, ↓z_cl_oag, List.drop_zero, List.length_take, ↓z_sps_map, ↓z_ret, ↓z_end_rt, resLW, res1W, List.take_zero, List.nil_append, ↓z_coeL_cons, ↓z_coeL_nil, ↓z_pack1, List.length_append, List.length_drop, ↓z_coe_oag, ↓z_coeC_bytes, D.agg.injEq, z_ite]); (try simp only [Int.toNat_natCast])
    refine ⟨fun hh => absurd hh (by decide), fun _ => ⟨by decide, by decide, by decide, ?_⟩⟩
    have tk : List.take 16 (cpK h 16) = cpK h 16 := List.take_of_length_le (by omega)
    rw [tk, show List.drop 16 (List.replicate 16 (0 : UInt8)) = [] from rfl, List.append_nil, tk, cpK_end, hm]
end Go.Abs

