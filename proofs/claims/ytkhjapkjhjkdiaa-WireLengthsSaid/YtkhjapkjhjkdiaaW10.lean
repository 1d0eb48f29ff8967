/-
  WIRE, tenth walks: digests, decoded and compared.
-/
import Derived.Test.YtkhjapkjhjkdiaaW9
namespace Go.Abs
open Go.Proofs

def decD (b : List UInt8) : Except Int ((Nat × List UInt8) × Nat) :=
  match decN b 16 with
  | .error e => .error e
  | .ok (n, u) => .ok ((n, (b.drop u).take (n * 16)), u + n * 16)
def digD (p : Nat × List UInt8) : D := .sl 16 p.1 (p.2.map bD)
theorem fn_at1 {G : Glob} {f : FuncId} {r : D} {b : List UInt8} {a : Nat} (h : Fn G Try.prog f [.sl 1 (b.drop a).length ((b.drop a).map bD)] r) :
    Fn G Try.prog f [.sl 1 (b.length - a) (((b.drop (a * 1)).take ((b.length - a) * 1)).map bD)] r := by
  rw [Nat.mul_one, Nat.mul_one]
  rw [List.length_drop] at h
  rwa [List.take_of_length_le (by rw [List.length_drop]; omega)]
theorem dig_step (b : List UInt8) (u i : Nat) : (b.drop u).take ((i + 1) * 16) = (b.drop u).take (i * 16) ++ (b.drop (u + i * 16)).take 16 := by
  rw [take16, List.drop_drop]

set_option maxRecDepth 100000 in
set_option maxHeartbeats 8000000 in
theorem fn_getDig (G : Glob) (b : List UInt8) (hb : b.length ≤ 100000) : Fn G Try.prog 46 [.sl 1 b.length (b.map bD), .int .i64 16, .fn 47 []] (rD digD .nils (decD b)) := by
  refine Fn.mk (c := _) Try.func46 rfl rfl Try.ntmps46 Try.results46 ?_
  (simp -dsimp only [bodyW, List.length_cons, List.length_nil, Nat.zero_add, Nat.reduceAdd, Nat.reduceLeDiff, wfL, ↓z_seq, ↓z_region, ↓z_ops_plain, ↓z_assign, ↓evW_const, ↓constW_nils, ↓z_put, Nat.reduceLT, ↓constW_int, inR_i64, Int.reduceNeg, Int.reduceLE, and_self, ↓z_ops_nil, ↓z_seq_nrm, ↓z_move, ↓evW_tmp, ↓lkW_cons, reduceCtorEq, ↓reduceIte, ↓z_lk_env, Nat.reduceEqDiff, ↓z_callv, ↓evW_func, ↓z_evL_cons, ↓z_evL_nil, ↓z_fun0, ↓z_coeL_cons, ↓z_coe_sl, ↓z_coe_int, ↓z_coeL_nil, true_and])
  intro _ _ _
  refine call_fn (fn_length G b 16 (by decide)) fun _ => ?_
  unfold decD
  cases h : decN b 16 with
  | error e =>
    have he := decN_err h
    (simp -dsimp only [↓z_put, Nat.reduceLT, ↓z_ops_plain, ↓z_move, ↓evW_tmp, ↓lkW_cons, ↓reduceIte, ↓z_extract, rD_err, Nat.reduceEqDiff, ↓z_assign, ↓z_ops_nil, ↓z_seq_nrm, ↓z_seq, ↓z_region, ↓z_binOp, ↓evW_const, ↓constW_int, inR_i64, Int.reduceNeg, Int.reduceLE, and_self, ↓z_cond, ↓constW_nils, ↓z_ret, ↓z_seq_rt, ↓z_end_rt, resLW, res1W, ↓z_coeL_cons, ↓z_coeL_nil, ↓z_pack2, D.tup.injEq, List.cons.injEq, and_true, ↓z_coe_int, true_and, ↓z_coe_nils, ↓z_skip, ↓z_block, ↓z_loop, ↓z_ex, ↓nthW_cons, reduceCtorEq, Nat.reduceSub, ↓z_bn_neq, ↓z_cnd, ↓z_gdt, ne_eq, z_ite, Classical.not_not])
    refine ⟨fun _ => trivial, fun h0 => ?_⟩
    exfalso; omega
  | ok p =>
    obtain ⟨m, u⟩ := p
    have hu := decN_ok h
    have hd : (b.length - u) / 16 * 16 ≤ b.length - u := Nat.div_mul_le_self _ _
    have hm : m * 16 ≤ (b.length - u) / 16 * 16 := Nat.mul_le_mul_right _ hu.2.2.2
    (simp -dsimp only [↓z_put, Nat.reduceLT, ↓z_ops_plain, ↓z_move, ↓evW_tmp, ↓lkW_cons, ↓reduceIte, ↓z_extract, rD_ok, Nat.reduceEqDiff, ↓z_assign, ↓z_ops_nil, ↓z_seq_nrm, ↓z_seq, ↓z_region, ↓z_binOp, ↓evW_const, ↓constW_int, inR_i64, Int.reduceNeg, Int.reduceLE, and_self, ↓z_cond, ↓constW_nils, ↓z_ret, ↓z_seq_rt, ↓z_end_rt, resLW, res1W, ↓z_coeL_cons, ↓z_coeL_nil, ↓z_pack2, D.tup.injEq, List.cons.injEq, and_true, ↓z_coe_int, D.int.injEq, true_and, ↓z_coe_nils, ↓z_skip, ↓z_block, ↓z_loop, ↓z_ex, ↓nthW_cons, reduceCtorEq, Nat.reduceSub, ↓z_bn_neq, ↓z_cnd, ↓z_gdt, ne_eq, not_true_eq_false])
    refine hold_intro ⟨[(12, 16)], Nat, fun i => ⟨51, 1, [(0, .sl 1 b.length (b.map bD)), (26, .int .i64 m), (27, .int .i64 i), (10, .int .i64 ((u + i * 16 : Nat) : Int)), (12, .osl 0 16 i), (2, .fn 47 [])], [(0, ((b.drop u).take (i * 16)).map bD)]⟩,
      fun i => i ≤ m, fun i => m - i, ?_, ?_⟩
    · (simp -dsimp only [↓z_ad_cons, Nat.reduceLT, ↓lkW_cons, Nat.reduceEqDiff, ↓reduceIte, ↓z_nm_nil, ↓z_pg_cons, ↓z_mn_int, ↓z_mn_nils, ↓z_mn_bool, ↓z_mn_sl, ↓z_pg_env, ↓z_mn_fn, ↓z_pg_env0, ↓z_ad_nil, ↓z_wk, ↓z_wkE_cons, reduceCtorEq, D.int.injEq, true_and, D.osl.injEq, Nat.zero_add, Nat.reduceAdd, ↓z_wkE_nil, and_self, and_true, ↓z_wkO_cons, ↓lkoW_cons, ↓z_wkO_nil]); (try simp only [Int.toNat_natCast, Nat.mul_one, Bool.or_false, Bool.false_or, Bool.or_self, Bool.or_true])
      refine ⟨0, by simp, ?_⟩
      simp
    · intro i hi
      (simp -dsimp only [↓z_seq, ↓z_region, ↓z_ops_plain, ↓z_binOp, ↓evW_tmp, ↓lkW_cons, reduceCtorEq, ↓reduceIte, Nat.reduceEqDiff, ↓z_bn_lss, ↓z_put, Nat.reduceLT, ↓z_ops_nil, ↓z_seq_nrm, ↓z_cond, ↓z_cnd, ↓z_gdt, ↓z_skip, ↓z_block, ↓z_move, ↓z_slice, ↓z_evO_some, ↓z_bo_some, ↓z_evO_none, ↓z_bo_none, ↓y_ty28, ↓z_seTy_sl, ↓y_sz5, ↓z_slc_sl_ln, ↓z_sub_map, ↓z_callv, ↓z_evL_cons, ↓z_evL_nil, ↓z_fun0, ↓z_coeL_cons, ↓z_coe_sl, ↓z_coeL_nil, true_and, ↓z_exit, ↓z_seq_ext, ↓z_lp_ext, ↓z_blk_ext, ↓z_assign, ↓evW_const, ↓constW_int, inR_i64, Int.reduceNeg, Int.reduceLE, and_self, ↓z_ret, ↓z_end_rt, resLW, res1W, ↓z_pack2, ↓z_coe_int, ↓z_coe_osl, ↓lkoW_cons, ↓z_allP_bytes, List.length_map, List.length_take, List.length_drop, z_ite]); (try simp only [Int.toNat_natCast])
      have htl : i * 16 ≤ m * 16 := Nat.mul_le_mul_right _ hi
      refine ⟨fun hlt => ⟨by omega, by omega, call_fn (fn_at1 (fn_getDigest G (b.drop (u + i * 16)) (by rw [List.length_drop]; omega))) fun _ => ?_⟩, fun hge => ?_⟩
      · have h16 : ((b.drop (u + i * 16)).take 16).length = 16 := by rw [List.length_take, List.length_drop]; omega
        (simp -dsimp only [↓z_put, Nat.reduceLT, ↓z_ops_plain, ↓z_move, ↓evW_tmp, ↓lkW_cons, ↓reduceIte, ↓z_extract, ↓z_ex, ↓nthW_cons, Nat.reduceEqDiff, reduceCtorEq, Nat.reduceSub, ↓z_alloc, ↓y_zr57, ↓z_new, ↓z_nm_cons, ↓z_nmC_bytes, ↓z_nm_nil, ↓z_pg_cons, ↓z_mn_int, ↓z_mn_agg, ↓z_mn_tup, ↓z_mn_sl, ↓z_mn_fn, ↓z_mn_bool, ↓z_mn_osl, ↓z_pg_nil, ↓z_store, ↓y_sz57, ↓z_cl_agg, List.length_map, List.length_take, List.length_drop, ↓z_store_ptr, ↓lkoW_cons, Nat.zero_add, List.length_cons, List.length_nil, Nat.reduceAdd, Nat.reduceLeDiff, ↓spsW_cons, ↓drW_cons, ↓drW_nil, ↓z_cat_nil_r, ↓z_so_cons, ↓z_put_none, ↓z_assign, ↓z_ops_nil, ↓z_seq_nrm, ↓z_seq, ↓z_region, ↓z_binOp, ↓evW_const, ↓constW_int, inR_i64, Int.reduceNeg, Int.reduceLE, and_self, ↓z_bn_neq, ↓z_cond, ↓z_cnd, ↓z_gdt, ne_eq, not_true_eq_false, ↓z_skip, ↓z_load, ↓y_ty57, ↓z_agTy_arr, ↓loadW_ptr, ↓z_rd_t, ↓z_sub_map, ↓z_buildSlice, ↓y_ty24, ↓z_slTy, Nat.reduceMul, maxLen_lit, ↓z_repL_s, ↓z_repL_0, ↓z_bld_cons, ↓z_cl_oag, Nat.zero_mul, ↓z_bld_nil, ↓z_allP_bytes, ↓z_callb, ↓z_evL_cons, ↓z_evL_nil, ↓z_append, ↓z_nint_sl, ↓y_by57, ↓z_src_slx, ↓z_app_osl, ↓z_room, ↓z_mn_slx, ↓z_mn_oag, ↓z_mnL_bytes, ↓z_mn_ptr, ↓z_bn_add, ↓wrW_i64, ↓z_blk_nrm, ↓z_lp_nrm, ↓z_wk, ↓z_wkE_cons, D.int.injEq, true_and, D.osl.injEq, ↓z_wkE_nil, and_true, ↓z_wkO_cons, ↓z_wkO_nil]); (try simp only [Int.toNat_natCast, Nat.mul_one, Bool.or_false, Bool.false_or, Bool.or_self, Bool.or_true])
        refine ⟨by omega, by omega, by omega, by omega, by omega, by omega, by omega, by omega, i + 1, by omega, by omega, ⟨by omega, by omega, rfl⟩, ?_⟩
        rw [dig_step, take16']
        simp
      · have : i = m := by omega
        subst this
        exact ⟨by omega, rfl⟩

set_option maxRecDepth 100000 in
set_option maxHeartbeats 8000000 in
theorem fn_GetDigests (G : Glob) (b : List UInt8) (hb : b.length ≤ 100000) : Fn G Try.prog 34 [.sl 1 b.length (b.map bD)] (rD digD .nils (decD b)) := by
  refine Fn.mk (c := _) Try.func34 rfl rfl Try.ntmps34 Try.results34 ?_
  (simp -dsimp only [bodyW, List.length_cons, List.length_nil, Nat.zero_add, Nat.reduceLeDiff, wfL, ↓z_seq, ↓z_region, ↓z_ops_plain, ↓z_assign, ↓evW_const, ↓constW_nils, ↓z_put, Nat.reduceLT, ↓constW_int, inR_i64, Int.reduceNeg, Int.reduceLE, and_self, ↓z_ops_nil, ↓z_seq_nrm, ↓z_move, ↓evW_tmp, ↓lkW_cons, reduceCtorEq, ↓reduceIte, ↓z_lk_env, ↓z_callv, ↓evW_func, ↓z_evL_cons, ↓z_evL_nil, ↓z_fun0, ↓z_coeL_cons, ↓z_coe_sl, ↓z_coe_int, ↓z_coe_fn, ↓z_coeL_nil, true_and])
  intro _
  refine call_fn (fn_getDig G b hb) fun _ => ?_
  cases h : decD b with
  | error e =>
    (simp -dsimp only [↓z_put, Nat.reduceLT, ↓z_ops_plain, ↓z_extract, ↓evW_tmp, ↓lkW_cons, ↓reduceIte, rD_err, Nat.reduceEqDiff, ↓z_assign, ↓z_ops_nil, ↓z_seq_nrm, ↓z_ret, ↓z_end_rt, resLW, res1W, ↓z_coeL_cons, ↓z_coeL_nil, ↓z_pack2, D.tup.injEq, List.cons.injEq, and_true, true_and, ↓z_ex, ↓nthW_cons, reduceCtorEq, Nat.reduceSub, ↓z_coe_int, ↓z_coe_nils, and_self]); (try simp only [Int.toNat_natCast, Nat.mul_one, Bool.or_false, Bool.false_or, Bool.or_self, Bool.or_true])
  | ok p =>
    obtain ⟨m, u⟩ := p
    (simp -dsimp only [↓z_put, Nat.reduceLT, ↓z_ops_plain, ↓z_extract, ↓evW_tmp, ↓lkW_cons, ↓reduceIte, rD_ok, digD, Nat.reduceEqDiff, ↓z_assign, ↓z_ops_nil, ↓z_seq_nrm, ↓z_ret, ↓z_end_rt, resLW, res1W, ↓z_coeL_cons, ↓z_coeL_nil, ↓z_pack2, D.tup.injEq, List.cons.injEq, and_true, true_and, ↓z_ex, ↓nthW_cons, reduceCtorEq, Nat.reduceSub, ↓z_coe_int, ↓z_coe_sl, and_self]); (try simp only [Int.toNat_natCast, Nat.mul_one, Bool.or_false, Bool.false_or, Bool.or_self, Bool.or_true])

theorem dig_set (c : List UInt8) (j : Nat) (hj : j < 16) (hc : j < c.length) :
    (c.take j ++ List.replicate (16 - j) 0).take j ++ [c[j]] ++ (c.take j ++ List.replicate (16 - j) 0).drop (j + 1) = c.take (j + 1) ++ List.replicate (16 - (j + 1)) 0 := by
  have hl : (c.take j).length = j := by rw [List.length_take]; omega
  have e1 : (c.take j ++ List.replicate (16 - j) (0 : UInt8)).take j = c.take j := by
    rw [List.take_append_of_le_length (by omega), List.take_of_length_le (by omega)]
  have e2 : (c.take j ++ List.replicate (16 - j) (0 : UInt8)).drop (j + 1) = List.replicate (16 - (j + 1)) 0 := by
    rw [List.drop_append, List.drop_of_length_le (by omega), hl, List.drop_replicate, List.nil_append]
    congr 1; omega
  have e3 : c.take (j + 1) = c.take j ++ [c[j]] := by simp
  rw [e1, e2, e3]

set_option maxRecDepth 100000 in
set_option maxHeartbeats 8000000 in
theorem fn_refGetDigests (G : Glob) (b : List UInt8) (hb : b.length ≤ 100000) : Fn G Try.prog 35 [.sl 1 b.length (b.map bD)] (rD digD .nils (decD b)) := by
  refine Fn.mk (c := _) Try.func35 rfl rfl Try.ntmps35 Try.results35 ?_
  (simp -dsimp only [bodyW, List.length_cons, List.length_nil, Nat.zero_add, Nat.reduceLeDiff, wfL, ↓z_seq, ↓z_region, ↓z_ops_plain, ↓z_assign, ↓evW_const, ↓constW_nils, ↓z_put, Nat.reduceLT, ↓constW_int, inR_i64, Int.reduceNeg, Int.reduceLE, and_self, ↓z_ops_nil, ↓z_seq_nrm, ↓z_move, ↓evW_tmp, ↓lkW_cons, reduceCtorEq, ↓reduceIte, ↓z_lk_env, ↓z_callv, ↓evW_func, ↓z_evL_cons, ↓z_evL_nil, ↓z_fun0, ↓z_coeL_cons, ↓z_coe_sl, ↓z_coe_int, ↓z_coeL_nil, true_and])
  intro _
  refine call_fn (fn_refLength G b 16 (by decide)) fun _ => ?_
  unfold decD
  cases h : decN b 16 with
  | error e =>
    have he := decN_err h
    (simp -dsimp only [↓z_put, Nat.reduceLT, ↓z_ops_plain, ↓z_move, ↓evW_tmp, ↓lkW_cons, ↓reduceIte, ↓z_extract, rD_err, Nat.reduceEqDiff, ↓z_assign, ↓z_ops_nil, ↓z_seq_nrm, ↓z_seq, ↓z_region, ↓z_binOp, ↓evW_const, ↓constW_int, inR_i64, Int.reduceNeg, Int.reduceLE, and_self, ↓z_cond, ↓constW_nils, ↓z_ret, ↓z_seq_rt, ↓z_end_rt, resLW, res1W, ↓z_coeL_cons, ↓z_coeL_nil, ↓z_pack2, D.tup.injEq, List.cons.injEq, and_true, ↓z_coe_int, true_and, ↓z_coe_nils, ↓z_skip, ↓z_block, ↓z_loop, ↓z_ex, ↓nthW_cons, reduceCtorEq, Nat.reduceSub, ↓z_bn_neq, ↓z_cnd, ↓z_gdt, ne_eq, z_ite, Classical.not_not])
    refine ⟨fun _ => trivial, fun h0 => ?_⟩
    exfalso; omega
  | ok p =>
    obtain ⟨m, u⟩ := p
    have hu := decN_ok h
    have hd : (b.length - u) / 16 * 16 ≤ b.length - u := Nat.div_mul_le_self _ _
    have hm : m * 16 ≤ (b.length - u) / 16 * 16 := Nat.mul_le_mul_right _ hu.2.2.2
    (simp -dsimp only [↓z_put, Nat.reduceLT, ↓z_ops_plain, ↓z_move, ↓evW_tmp, ↓lkW_cons, ↓reduceIte, ↓z_extract, rD_ok, Nat.reduceEqDiff, ↓z_assign, ↓z_ops_nil, ↓z_seq_nrm, ↓z_seq, ↓z_region, ↓z_binOp, ↓evW_const, ↓constW_int, inR_i64, Int.reduceNeg, Int.reduceLE, and_self, ↓z_cond, ↓constW_nils, ↓z_ret, ↓z_seq_rt, ↓z_end_rt, resLW, res1W, ↓z_coeL_cons, ↓z_coeL_nil, ↓z_pack2, D.tup.injEq, List.cons.injEq, and_true, ↓z_coe_int, D.int.injEq, true_and, ↓z_coe_nils, ↓z_skip, ↓z_block, ↓z_loop, ↓z_ex, ↓nthW_cons, reduceCtorEq, Nat.reduceSub, ↓z_bn_neq, ↓z_cnd, ↓z_gdt, ne_eq, not_true_eq_false])
    refine hold_intro ⟨[(8, 16)], Nat, fun i => ⟨46, 1, [(0, .sl 1 b.length (b.map bD)), (5, .int .i64 m), (9, .int .i64 i), (6, .int .i64 ((u + i * 16 : Nat) : Int)), (8, .osl 0 16 i)], [(0, ((b.drop u).take (i * 16)).map bD)]⟩,
      fun i => i ≤ m, fun i => m - i, ?_, ?_⟩
    · (simp -dsimp only [↓z_ad_cons, Nat.reduceLT, ↓lkW_cons, Nat.reduceEqDiff, ↓reduceIte, ↓z_nm_nil, ↓z_pg_cons, ↓z_mn_int, ↓z_mn_nils, ↓z_mn_bool, ↓z_mn_sl, ↓z_pg_env, ↓z_pg_env0, ↓z_ad_nil, ↓z_wk, ↓z_wkE_cons, reduceCtorEq, D.int.injEq, true_and, D.osl.injEq, ↓z_wkE_nil, and_true, ↓z_wkO_cons, ↓lkoW_cons, ↓z_wkO_nil]); (try simp only [Int.toNat_natCast, Nat.mul_one, Bool.or_false, Bool.false_or, Bool.or_self, Bool.or_true])
      refine ⟨0, by simp, ?_⟩
      simp
    · intro i hi
      (simp -dsimp only [↓z_seq, ↓z_region, ↓z_ops_plain, ↓z_move, ↓evW_tmp, ↓lkW_cons, reduceCtorEq, ↓reduceIte, Nat.reduceEqDiff, ↓z_put, Nat.reduceLT, ↓z_binOp, ↓z_bn_lss, ↓z_ops_nil, ↓z_seq_nrm, ↓z_cond, ↓z_cnd, ↓z_gdt, ↓z_skip, ↓z_block, ↓z_alloc, ↓y_zr57, ↓z_new, ↓z_nm_cons, ↓z_nmC_bytes, ↓z_nm_nil, ↓z_pg_cons, ↓z_mn_bool, ↓z_mn_int, ↓z_mn_sl, ↓z_mn_osl, ↓z_pg_nil, ↓z_assign, ↓evW_const, ↓constW_int, inR_i64, Int.reduceNeg, Int.reduceLE, and_self, ↓z_loop, true_and, ↓z_exit, ↓z_seq_ext, ↓z_lp_ext, ↓z_blk_ext, ↓z_ret, ↓z_end_rt, resLW, res1W, ↓z_coeL_cons, ↓z_coeL_nil, ↓z_pack2, ↓z_coe_int, ↓z_coe_osl, ↓lkoW_cons, ↓z_allP_bytes, List.length_map, List.length_take, List.length_drop, z_ite])
      have htl : i * 16 ≤ m * 16 := Nat.mul_le_mul_right _ hi
      refine ⟨fun hlt => hold_intro ⟨[], Nat, fun j => ⟨46, 2, [(0, .sl 1 b.length (b.map bD)), (5, .int .i64 m), (9, .int .i64 i), (6, .int .i64 ((u + i * 16 : Nat) : Int)), (8, .osl 0 16 i), (10, .ptr 1 0), (11, .int .i64 j)],
          [(1, ((b.drop (u + i * 16)).take j ++ List.replicate (16 - j) 0).map bD), (0, ((b.drop u).take (i * 16)).map bD)]⟩, fun j => j ≤ 16, fun j => 16 - j, ?_, ?_⟩, fun hge => ?_⟩
      · (simp -dsimp only [↓z_ad_nil, ↓z_wk, ↓z_wkE_cons, ↓lkW_cons, reduceCtorEq, ↓reduceIte, Nat.reduceEqDiff, D.int.injEq, true_and, ↓z_wkE_nil, and_true, ↓z_wkO_cons, ↓lkoW_cons, ↓z_wkO_nil, and_self]); (try simp only [Int.toNat_natCast, Nat.mul_one, Bool.or_false, Bool.false_or, Bool.or_self, Bool.or_true])
        exact ⟨0, by omega, rfl, rfl⟩
      · intro j hj
        (simp -dsimp only [↓z_seq, ↓z_region, ↓z_ops_plain, ↓z_move, ↓evW_tmp, ↓lkW_cons, reduceCtorEq, ↓reduceIte, Nat.reduceEqDiff, ↓z_put, Nat.reduceLT, ↓z_binOp, ↓evW_const, ↓constW_int, inR_i64, Int.reduceNeg, Int.reduceLE, and_self, ↓z_bn_lss, ↓z_ops_nil, ↓z_seq_nrm, ↓z_cond, ↓z_cnd, ↓z_gdt, ↓z_skip, ↓z_block, ↓z_bn_add, ↓wrW_i64, ↓z_indexAddr, ↓y_ty28, ↓z_elTy_sl, ↓y_sz5, ↓z_ix_sl, ↓z_load, ↓y_ty5, ↓z_agTy_int, ↓loadW_rop, ↓z_rd_f, ↓z_nth_bytes, ↓y_ty57, ↓z_elTy_arr, ↓z_ix_ptr, ↓z_store, ↓z_cl_int, Nat.mul_one, List.length_cons, List.length_nil, Nat.zero_add, ↓z_store_ptr, ↓lkoW_cons, List.length_map, List.length_append, List.length_take, List.length_drop, ↓z_sps_byte, ↓z_so_cons, ↓z_put_none, ↓z_blk_nrm, ↓z_assign, ↓z_lp_nrm, ↓z_wk, ↓z_wkE_cons, D.int.injEq, true_and, ↓z_wkE_nil, and_true, ↓z_wkO_cons, ↓z_wkO_nil, ↓z_exit, ↓z_seq_ext, ↓z_lp_ext, ↓z_blk_ext, ↓y_sz57, ↓z_agTy_arr, ↓loadW_ptr, ↓z_rd_t, ↓z_sub_map, ↓z_buildSlice, ↓y_ty24, ↓z_slTy, Nat.reduceMul, Nat.reduceLeDiff, maxLen_lit, ↓y_zr57, Nat.reduceAdd, ↓z_repL_s, ↓z_repL_0, ↓z_cat_nil_r, ↓z_bld_cons, ↓z_cl_oag, Nat.zero_mul, ↓spsW_cons, ↓drW_cons, Nat.reduceSub, ↓drW_nil, ↓z_bld_nil, ↓z_allP_bytes, ↓z_callb, ↓z_evL_cons, ↓z_evL_nil, ↓z_append, ↓z_nint_sl, ↓y_by57, ↓z_src_slx, ↓z_app_osl, ↓z_room, ↓z_nm_cons, ↓z_nmC_bytes, ↓z_nm_nil, ↓z_pg_cons, ↓z_mn_slx, ↓z_mn_oag, ↓z_mnL_bytes, ↓z_mn_osl, ↓z_mn_bool, ↓z_mn_int, ↓z_mn_sl, ↓z_mn_ptr, ↓z_pg_nil, D.osl.injEq, z_ite]); (try simp only [Int.toNat_natCast])
        have hlen : (List.replicate (16 - j) (0 : UInt8)).length = 16 - j := List.length_replicate
        have hcl : j < 16 → j < (b.drop (u + i * 16)).length := fun _ => by rw [List.length_drop]; omega
        rw [hlen]
        refine ⟨fun hj' => ⟨by omega, by omega, by omega, by omega, by omega, by omega, by omega, by omega, j + 1, by omega, by omega, by omega, ?_⟩, fun hj' => ?_⟩
        · have e : (((u + i * 16 : Nat) : Int) + (j : Int)).toNat = u + i * 16 + j := by omega
          simp only [e]
          rw [← dig_set _ j (by omega) (hcl (by omega))]
          simp only [List.getElem_drop]
        · have : j = 16 := by omega
          subst this
          refine ⟨by omega, by omega, by omega, by omega, by omega, by omega, by omega, i + 1, by omega, by omega, ⟨by omega, by omega, rfl⟩, ?_⟩
          rw [dig_step]
          simp [List.take_take]
      · have : i = m := by omega
        subst this
        exact ⟨by omega, rfl⟩
theorem map_bD_inj {a b : List UInt8} : a.map bD = b.map bD ↔ a = b := by
  constructor
  · intro h
    exact (List.map_inj_right (fun x y h => bD_inj h)).1 h
  · rintro rfl; rfl
theorem take16_all {A B : List UInt8} {n : Nat} (hA : A.length = n * 16) (hB : B.length = n * 16) (h : A.take (n * 16) = B.take (n * 16)) : A = B := by
  rwa [List.take_of_length_le (by omega), List.take_of_length_le (by omega)] at h

set_option maxRecDepth 100000 in
set_option maxHeartbeats 8000000 in
theorem fn_SameDigests_sl (G : Glob) (m n : Nat) (A B : List UInt8) : Fn G Try.prog 36 [.sl 16 m (A.map bD), .sl 16 n (B.map bD)] (.bool (decide (A = B))) := by
  refine Fn.mk (c := _) Try.func36 rfl rfl Try.ntmps36 Try.results36 ?_
  (simp -dsimp only [bodyW, List.length_cons, List.length_nil, Nat.zero_add, Nat.reduceAdd, Nat.reduceLeDiff, wfL, ↓z_seq, ↓z_region, ↓z_ops_plain, ↓z_assign, ↓evW_const, ↓constW_bool, ↓z_put, Nat.reduceLT, ↓z_ops_nil, ↓z_seq_nrm, ↓z_move, ↓evW_tmp, ↓lkW_cons, reduceCtorEq, ↓reduceIte, ↓z_lk_env, ↓z_callb, ↓z_evL_cons, ↓z_evL_nil, ↓z_len, ↓y_ty24, ↓z_ln_sl, Nat.reduceEqDiff, ↓z_binOp, ↓z_bn_neq, ↓z_cond, ↓z_cnd, ↓z_gdt, ne_eq, ↓z_ret, ↓z_seq_rt, ↓z_end_rt, resLW, res1W, ↓z_coeL_cons, ↓z_coeL_nil, ↓z_pack1, ↓z_coe_bool, D.bool.injEq, true_and, ↓z_skip, ↓constW_int, inR_i64, Int.reduceNeg, Int.reduceLE, and_self, ↓z_block, ↓z_loop, z_ite, Classical.not_not])
  intro ha hb
  have ha' : m ≤ 9223372036854775807 := ha.1.1
  have hA : A.length = m * 16 := by have := ha.1.2; simpa using this
  have hB : B.length = n * 16 := by have := hb.1.2; simpa using this
  refine ⟨fun h => ?_, fun h => hold_intro ⟨[], Nat, fun i => ⟨26, 0, [(0, .sl 16 m (A.map bD)), (1, .sl 16 n (B.map bD)), (5, .int .i64 i)], []⟩, fun i => i ≤ m ∧ A.take (i * 16) = B.take (i * 16), fun i => m - i, ?_, ?_⟩⟩
  · have : A ≠ B := fun e => h (by subst e; omega)
    simp [this]
  · (simp -dsimp only [↓z_ad_nil, ↓z_wk, ↓z_wkE_cons, ↓lkW_cons, reduceCtorEq, ↓reduceIte, ↓z_lk_env, Nat.reduceEqDiff, Nat.zero_add, D.int.injEq, true_and, ↓z_wkE_nil, and_true, ↓z_wkO_nil]); (try simp only [Int.toNat_natCast, Nat.mul_one, Bool.or_false, Bool.false_or, Bool.or_self, Bool.or_true])
    exact ⟨0, by simp, rfl⟩
  · rintro i ⟨hi, he⟩
    have hmn : m = n := by omega
    subst hmn
    (simp -dsimp only [↓z_seq, ↓z_region, ↓z_ops_plain, ↓z_move, ↓evW_tmp, ↓lkW_cons, reduceCtorEq, ↓reduceIte, Nat.reduceEqDiff, ↓z_put, Nat.reduceLT, ↓z_callb, ↓z_evL_cons, ↓z_evL_nil, ↓z_len, ↓y_ty24, ↓z_ln_sl, ↓z_binOp, ↓z_bn_lss, ↓z_ops_nil, ↓z_seq_nrm, ↓z_cond, ↓z_cnd, ↓z_gdt, ↓z_skip, ↓z_block, ↓z_region_d, ↓y_mix, true_and, ↓z_exit, ↓z_seq_ext, ↓z_lp_ext, ↓z_blk_ext, ↓z_assign, ↓evW_const, ↓constW_bool, ↓z_ret, ↓z_end_rt, resLW, res1W, ↓z_coeL_cons, ↓z_coeL_nil, ↓z_pack1, ↓z_coe_bool, D.bool.injEq, z_ite])
    refine ⟨fun hlt => rgn_q (by decide +kernel) rfl ?_, fun hge => ?_⟩
    · (simp -dsimp only [↓z_ops_plain, ↓z_move, ↓evW_tmp, ↓lkW_cons, reduceCtorEq, ↓reduceIte, ↓z_put, Nat.reduceLT, Nat.reduceEqDiff, ↓z_indexAddr, ↓y_ty24, ↓z_elTy_sl, ↓y_sz57, ↓z_ix_sl, ↓z_load, ↓y_ty57, ↓z_agTy_arr, ↓loadW_rop, ↓z_rd_t, List.length_map, ↓z_sub_map, ↓z_binOp, ↓z_bn_aneq, ↓y_fk57, ↓kdM_bytes, List.length_take, List.length_drop, ↓z_ops_nil, ↓z_seq_nrm, ↓z_cond, ↓z_cnd, ↓z_gnt, ↓z_geqf, ↓z_seq, ↓z_region, ↓z_assign, ↓evW_const, ↓constW_bool, ↓z_ret, ↓z_blk_rt, ↓z_seq_rt, ↓z_lp_rt, ↓z_end_rt, resLW, res1W, ↓z_coeL_cons, ↓z_coeL_nil, ↓z_pack1, ↓z_coe_bool, D.bool.injEq, true_and, ↓z_skip, ↓z_blk_nrm, ↓constW_int, inR_i64, Int.reduceNeg, Int.reduceLE, and_self, ↓z_bn_add, ↓wrW_i64, ↓z_lp_nrm, ↓z_wk, ↓z_wkE_cons, D.int.injEq, ↓z_wkE_nil, and_true, ↓z_wkO_nil]); (try simp only [Int.toNat_natCast])
      have hmul : (i + 1) * 16 ≤ m * 16 := Nat.mul_le_mul_right _ (by omega)
      refine ⟨by omega, by omega, by omega, by omega, by omega, by omega, by omega, by omega, fun hne => ?_, fun heq => ⟨by omega, i + 1, ⟨by omega, ?_⟩, by omega, by omega⟩⟩
      · have : A ≠ B := fun e => hne (by subst e; rfl)
        simp [this]
      · rw [map_bD_inj] at heq
        rw [take16, take16, he, heq]
    · have : i = m := by omega
      subst this
      have : A = B := take16_all hA hB he
      simp [this]

set_option maxRecDepth 100000 in
set_option maxHeartbeats 8000000 in
theorem fn_SameDigests_slx (G : Glob) (m n : Nat) (A B : List UInt8) : Fn G Try.prog 36 [.sl 16 m (A.map bD), .slx 16 n (B.map bD)] (.bool (decide (A = B))) := by
  refine Fn.mk (c := _) Try.func36 rfl rfl Try.ntmps36 Try.results36 ?_
  (simp -dsimp only [bodyW, List.length_cons, List.length_nil, Nat.zero_add, Nat.reduceAdd, Nat.reduceLeDiff, wfL, ↓z_seq, ↓z_region, ↓z_ops_plain, ↓z_assign, ↓evW_const, ↓constW_bool, ↓z_put, Nat.reduceLT, ↓z_ops_nil, ↓z_seq_nrm, ↓z_move, ↓evW_tmp, ↓lkW_cons, reduceCtorEq, ↓reduceIte, ↓z_lk_env, ↓z_callb, ↓z_evL_cons, ↓z_evL_nil, ↓z_len, ↓y_ty24, ↓z_ln_sl, Nat.reduceEqDiff, ↓z_ln_slx, ↓z_binOp, ↓z_bn_neq, ↓z_cond, ↓z_cnd, ↓z_gdt, ne_eq, ↓z_ret, ↓z_seq_rt, ↓z_end_rt, resLW, res1W, ↓z_coeL_cons, ↓z_coeL_nil, ↓z_pack1, ↓z_coe_bool, D.bool.injEq, true_and, ↓z_skip, ↓constW_int, inR_i64, Int.reduceNeg, Int.reduceLE, and_self, ↓z_block, ↓z_loop, z_ite, Classical.not_not])
  intro ha hb
  have ha' : m ≤ 9223372036854775807 := ha.1.1
  have hA : A.length = m * 16 := by have := ha.1.2; simpa using this
  have hB : B.length = n * 16 := by have := hb.1.2; simpa using this
  refine ⟨fun h => ?_, fun h => hold_intro ⟨[], Nat, fun i => ⟨26, 0, [(0, .sl 16 m (A.map bD)), (1, .slx 16 n (B.map bD)), (5, .int .i64 i)], []⟩, fun i => i ≤ m ∧ A.take (i * 16) = B.take (i * 16), fun i => m - i, ?_, ?_⟩⟩
  · have : A ≠ B := fun e => h (by subst e; omega)
    simp [this]
  · (simp -dsimp only [↓z_ad_nil, ↓z_wk, ↓z_wkE_cons, ↓lkW_cons, reduceCtorEq, ↓reduceIte, ↓z_lk_env, Nat.reduceEqDiff, Nat.zero_add, D.int.injEq, true_and, ↓z_wkE_nil, and_true, ↓z_wkO_nil]); (try simp only [Int.toNat_natCast, Nat.mul_one, Bool.or_false, Bool.false_or, Bool.or_self, Bool.or_true])
    exact ⟨0, by simp, rfl⟩
  · rintro i ⟨hi, he⟩
    have hmn : m = n := by omega
    subst hmn
    (simp -dsimp only [↓z_seq, ↓z_region, ↓z_ops_plain, ↓z_move, ↓evW_tmp, ↓lkW_cons, reduceCtorEq, ↓reduceIte, Nat.reduceEqDiff, ↓z_put, Nat.reduceLT, ↓z_callb, ↓z_evL_cons, ↓z_evL_nil, ↓z_len, ↓y_ty24, ↓z_ln_sl, ↓z_binOp, ↓z_bn_lss, ↓z_ops_nil, ↓z_seq_nrm, ↓z_cond, ↓z_cnd, ↓z_gdt, ↓z_skip, ↓z_block, ↓z_region_d, ↓y_mix, true_and, ↓z_exit, ↓z_seq_ext, ↓z_lp_ext, ↓z_blk_ext, ↓z_assign, ↓evW_const, ↓constW_bool, ↓z_ret, ↓z_end_rt, resLW, res1W, ↓z_coeL_cons, ↓z_coeL_nil, ↓z_pack1, ↓z_coe_bool, D.bool.injEq, z_ite])
    refine ⟨fun hlt => rgn_q (by decide +kernel) rfl ?_, fun hge => ?_⟩
    · (simp -dsimp only [↓z_ops_plain, ↓z_move, ↓evW_tmp, ↓lkW_cons, reduceCtorEq, ↓reduceIte, ↓z_put, Nat.reduceLT, Nat.reduceEqDiff, ↓z_indexAddr, ↓y_ty24, ↓z_elTy_sl, ↓y_sz57, ↓z_ix_sl, ↓z_load, ↓y_ty57, ↓z_agTy_arr, ↓loadW_rop, ↓z_rd_t, List.length_map, ↓z_sub_map, ↓z_ix_slx, ↓z_binOp, ↓z_bn_aneq, ↓y_fk57, ↓kdM_bytes, List.length_take, List.length_drop, ↓z_ops_nil, ↓z_seq_nrm, ↓z_cond, ↓z_cnd, ↓z_gnt, ↓z_geqf, ↓z_seq, ↓z_region, ↓z_assign, ↓evW_const, ↓constW_bool, ↓z_ret, ↓z_blk_rt, ↓z_seq_rt, ↓z_lp_rt, ↓z_end_rt, resLW, res1W, ↓z_coeL_cons, ↓z_coeL_nil, ↓z_pack1, ↓z_coe_bool, D.bool.injEq, true_and, ↓z_skip, ↓z_blk_nrm, ↓constW_int, inR_i64, Int.reduceNeg, Int.reduceLE, and_self, ↓z_bn_add, ↓wrW_i64, ↓z_lp_nrm, ↓z_wk, ↓z_wkE_cons, D.int.injEq, ↓z_wkE_nil, and_true, ↓z_wkO_nil]); (try simp only [Int.toNat_natCast])
      have hmul : (i + 1) * 16 ≤ m * 16 := Nat.mul_le_mul_right _ (by omega)
      refine ⟨by omega, by omega, by omega, by omega, by omega, by omega, by omega, by omega, fun hne => ?_, fun heq => ⟨by omega, i + 1, ⟨by omega, ?_⟩, by omega, by omega⟩⟩
      · have : A ≠ B := fun e => hne (by subst e; rfl)
        simp [this]
      · rw [map_bD_inj] at heq
        rw [take16, take16, he, heq]
    · have : i = m := by omega
      subst this
      have : A = B := take16_all hA hB he
      simp [this]

set_option maxRecDepth 100000 in
set_option maxHeartbeats 8000000 in
theorem fn_SameDigests_nils (G : Glob) : Fn G Try.prog 36 [.nils, .nils] (.bool true) := by
  refine Fn.mk (c := _) Try.func36 rfl rfl Try.ntmps36 Try.results36 ?_
  (simp -dsimp only [bodyW, List.length_cons, List.length_nil, Nat.zero_add, Nat.reduceAdd, Nat.reduceLeDiff, wfL, ↓z_seq, ↓z_region, ↓z_ops_plain, ↓z_assign, ↓evW_const, ↓constW_bool, ↓z_put, Nat.reduceLT, ↓z_ops_nil, ↓z_seq_nrm, ↓z_move, ↓evW_tmp, ↓lkW_cons, reduceCtorEq, ↓reduceIte, ↓z_lk_env, ↓z_callb, ↓z_evL_cons, ↓z_evL_nil, ↓z_len, ↓y_ty24, ↓z_ln_nils, Nat.reduceEqDiff, ↓z_binOp, ↓z_bn_neq, ↓z_cond, ↓z_cnd, ↓z_gdt, ne_eq, not_true_eq_false, ↓z_skip, ↓constW_int, inR_i64, Int.reduceNeg, Int.reduceLE, and_self, ↓z_block, ↓z_loop, true_and])
  intro _ _
  refine hold_intro ⟨[], Unit, fun _ => ⟨26, 0, [(0, .nils), (1, .nils), (5, .int .i64 0)], []⟩, fun _ => True, fun _ => 0, ?_, ?_⟩
  · (simp -dsimp only [↓z_ad_nil, ↓z_wk, ↓z_wkE_cons, ↓lkW_cons, reduceCtorEq, ↓reduceIte, ↓z_lk_env, Nat.reduceEqDiff, Nat.zero_add, ↓z_wkE_nil, and_self, ↓z_wkO_nil]); (try simp only [Int.toNat_natCast, Nat.mul_one, Bool.or_false, Bool.false_or, Bool.or_self, Bool.or_true])
    exact ⟨(), trivial⟩
  · rintro _ _
    (simp -dsimp only [↓z_seq, ↓z_region, ↓z_ops_plain, ↓z_move, ↓evW_tmp, ↓lkW_cons, reduceCtorEq, ↓reduceIte, Nat.reduceEqDiff, ↓z_put, Nat.reduceLT, ↓z_callb, ↓z_evL_cons, ↓z_evL_nil, ↓z_len, ↓y_ty24, ↓z_ln_nils, ↓z_binOp, ↓z_bn_lss, ↓z_ops_nil, ↓z_seq_nrm, ↓z_cond, ↓z_cnd, ↓z_gdt, Int.reduceLT, ↓z_exit, ↓z_seq_ext, ↓z_lp_ext, ↓z_blk_ext, ↓z_assign, ↓evW_const, ↓constW_bool, ↓z_ret, ↓z_end_rt, resLW, res1W, ↓z_coeL_cons, ↓z_coeL_nil, ↓z_pack1, ↓z_coe_bool, and_self]); (try simp only [Int.toNat_natCast, Nat.mul_one, Bool.or_false, Bool.false_or, Bool.or_self, Bool.or_true])
end Go.Abs

