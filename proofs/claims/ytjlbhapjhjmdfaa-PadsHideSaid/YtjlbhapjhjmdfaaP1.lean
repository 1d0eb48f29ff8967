/-
  PAD, first walks: sums of strings.
-/
import Derived.Test.YtjlbhapjhjmdfaaTy
import Derived.Laws.BitsAllLaws
namespace Go.Abs
open Go.Proofs

theorem put_upto {n i : Nat} (f : Nat → UInt8) (h : i < n) : List.take i (List.map bD (List.map (fun k => if k < i then f k else 0) (List.range n))) ++ [bD (f i)] ++ List.drop (i + 1) (List.map bD (List.map (fun k => if k < i then f k else 0) (List.range n))) =
    List.map bD (List.map (fun k => if k < i + 1 then f k else 0) (List.range n)) := by
  have e := List.set_eq_take_append_cons_drop (l := List.map bD (List.map (fun k => if k < i then f k else 0) (List.range n))) (i := i) (a := bD (f i))
  rw [if_pos (by simpa using h)] at e
  rw [List.append_assoc, List.singleton_append, ← e]
  apply List.ext_getElem
  · simp
  · intro k h1 h2
    rw [List.getElem_set]
    simp only [List.getElem_map, List.getElem_range]
    split
    · rename_i e; subst e; rw [if_pos (by omega)]
    · by_cases hk : k < i
      · rw [if_pos hk, if_pos (by omega)]
      · rw [if_neg hk, if_neg (by omega)]
/-- The byte at a place; 0 behind the end. -/
def atB (s : List UInt8) (k : Nat) : UInt8 := s.getD k 0
def sumB (a b : List UInt8) : List UInt8 := (List.range (max a.length b.length)).map fun k => atB a k ^^^ atB b k
theorem atB_lt {s : List UInt8} {k : Nat} (h : k < s.length) : atB s k = s[k] := by simp [atB, h]
theorem xorB (a b : UInt8) : bits .xor .u8 (a.toNat : Int) (b.toNat : Int) = ((a ^^^ b).toNat : Int) := by
  rw [u8_xor_nat _ _ a.toNat_lt b.toNat_lt, UInt8.toNat_xor]
theorem atB_ge {s : List UInt8} {k : Nat} (h : s.length ≤ k) : atB s k = 0 := by simp [atB, h]

set_option maxRecDepth 100000 in
set_option maxHeartbeats 8000000 in
theorem fn_sum1 (G : Glob) (a b : List UInt8) (k : Nat) (hk : k < a.length) (hab : b.length ≤ a.length) : Fn G Try.prog 29 [.int .i64 k, .rop [.str b] 0, .rop [.str a] 0] (bD (atB a k ^^^ atB b k)) := by
  refine Fn.mk (c := _) Try.func29 rfl rfl Try.ntmps29 Try.results29 ?_
  (simp -dsimp only [bodyW, List.length_cons, List.length_nil, Nat.zero_add, Nat.reduceAdd, Nat.reduceLeDiff, wfL, ↓z_seq, ↓z_region, ↓z_ops_plain, ↓z_assign, ↓evW_const, ↓constW_int, inR_u8, Int.reduceLE, and_self, ↓z_put, Nat.reduceLT, ↓z_ops_nil, ↓z_seq_nrm, ↓z_move, ↓evW_tmp, ↓lkW_cons, reduceCtorEq, ↓reduceIte, ↓z_lk_env, ↓z_load, Nat.reduceEqDiff, ↓y_ty9, ↓y_sz9, ↓z_agTy_str, ↓loadW_rop, ↓z_rd_f, ↓nthW_cons, ↓z_callb, ↓z_evL_cons, ↓z_evL_nil, ↓z_len, ↓z_ln_str, ↓z_binOp, ↓z_bn_lss, ↓z_cond, ↓z_cnd, ↓z_gdt, ↓z_region_d, ↓y_mix, true_and, ↓z_skip, ↓z_index, ↓z_in_str, ↓z_inx_str, ↓z_ret, ↓z_end_rt, resLW, res1W, ↓z_coeL_cons, ↓z_coeL_nil, ↓z_pack1, ↓z_coe_int, z_ite]); (try simp only [Int.toNat_natCast])
  intro _ _ _
  refine ⟨fun h => rgn_q (by decide +kernel) rfl ?_, fun h => ⟨by omega, hk, ?_⟩⟩
  · (simp -dsimp only [↓z_ops_plain, ↓z_load, ↓evW_tmp, ↓lkW_cons, Nat.reduceEqDiff, ↓reduceIte, ↓z_lk_env, reduceCtorEq, Nat.zero_add, Nat.reduceAdd, ↓y_ty9, ↓y_sz9, ↓z_agTy_str, ↓loadW_rop, ↓z_rd_f, ↓nthW_cons, ↓z_put, Nat.reduceLT, ↓z_move, ↓z_index, ↓z_in_str, ↓z_inx_str, ↓z_binOp, ↓z_bn_xor, ↓z_assign, ↓z_ops_nil, ↓z_seq_nrm, ↓z_ret, ↓z_seq_rt, ↓z_end_rt, resLW, res1W, ↓z_coeL_cons, ↓z_coeL_nil, ↓z_pack1, ↓z_coe_int, true_and]); (try simp only [Int.toNat_natCast])
    refine ⟨by omega, hk, by omega, by omega, ?_⟩
    rw [atB_lt hk, atB_lt (s := b) (by omega), xorB]; rfl
  · rw [atB_lt hk, atB_ge (s := b) (by omega)]
    simp [bD]
set_option maxRecDepth 100000 in
set_option maxHeartbeats 8000000 in
theorem fn_at (G : Glob) (a : List UInt8) (k : Nat) : Fn G Try.prog 32 [.str a, .int .i64 k] (bD (atB a k)) := by
  refine Fn.mk (c := _) Try.func32 rfl rfl Try.ntmps32 Try.results32 ?_
  (simp -dsimp only [bodyW, List.length_cons, List.length_nil, Nat.zero_add, Nat.reduceAdd, Nat.reduceLeDiff, wfL, ↓z_seq, ↓z_region, ↓z_ops_plain, ↓z_assign, ↓evW_const, ↓constW_int, inR_u8, Int.reduceLE, and_self, ↓z_put, Nat.reduceLT, ↓z_ops_nil, ↓z_seq_nrm, ↓z_move, ↓evW_tmp, ↓lkW_cons, Nat.reduceEqDiff, ↓reduceIte, ↓z_lk_env, reduceCtorEq, ↓z_callb, ↓z_evL_cons, ↓z_evL_nil, ↓z_len, ↓y_ty9, ↓z_ln_str, ↓z_binOp, ↓z_bn_lss, ↓z_cond, ↓z_cnd, ↓z_gdt, ↓z_index, ↓z_in_str, ↓z_inx_str, ↓z_ret, ↓z_seq_rt, ↓z_end_rt, resLW, res1W, ↓z_coeL_cons, ↓z_coeL_nil, ↓z_pack1, ↓z_coe_int, true_and, ↓z_skip, z_ite]); (try simp only [Int.toNat_natCast])
  intro _ _
  refine ⟨fun h => ⟨by omega, by omega, ?_⟩, fun h => ?_⟩
  · rw [atB_lt (by omega)]; rfl
  · rw [atB_ge (by omega)]; rfl
set_option maxRecDepth 100000 in
set_option maxHeartbeats 8000000 in
theorem fn_build (G : Glob) (g : FuncId) (caps : List D) (n : Nat) (f : Nat → UInt8) (hf : ∀ k, k < n → Fn G Try.prog g ([.int .i64 k] ++ caps) (bD (f k))) (hn : n ≤ 140737488355328) : Fn G Try.prog 28 [.int .i64 n, .fn g caps] (.str ((List.range n).map f)) := by
  refine Fn.mk (c := _) Try.func28 rfl rfl Try.ntmps28 Try.results28 ?_
  (simp -dsimp only [bodyW, List.length_cons, List.length_nil, Nat.zero_add, Nat.reduceAdd, Nat.reduceLeDiff, wfL, ↓z_seq, ↓z_region, ↓z_ops_plain, ↓z_assign, ↓evW_const, ↓constW_string, maxLen_lit, ↓z_put, Nat.reduceLT, ↓z_ops_nil, ↓z_seq_nrm, ↓z_move, ↓evW_tmp, ↓lkW_cons, reduceCtorEq, ↓reduceIte, ↓z_lk_env, ↓z_makeSlice, ↓z_mk, ↓y_ty67, ↓z_slTy, ↓y_sz5, ↓y_by5, ↓z_room, Nat.mul_one, ↓y_zr5, ↓repW_one, ↓z_new, ↓z_nm_nil, ↓z_pg_cons, ↓z_mn_int, ↓z_mn_str, ↓z_pg_env, ↓z_mn_fn, ↓z_pg_env0, ↓constW_int, inR_i64, Int.reduceNeg, Int.reduceLE, and_self, ↓z_block, ↓z_loop, true_and]); (try simp only [Int.toNat_natCast])
  intro _ _
  refine ⟨by omega, hn, by omega, hold_intro ⟨[], Nat, fun i => ⟨22, 1, [(10, .int .i64 i), (9, .int .i64 n), (5, .osl 0 1 n), (1, .fn g caps)], [(0, ((List.range n).map fun k => if k < i then f k else 0).map bD)]⟩, fun i => i ≤ n, fun i => n - i, ?_, ?_⟩⟩
  · (simp -dsimp only [↓z_ad_nil, ↓z_wk, ↓z_wkE_cons, ↓lkW_cons, ↓reduceIte, D.int.injEq, true_and, Nat.reduceEqDiff, reduceCtorEq, Nat.zero_add, ↓z_wkE_nil, and_self, and_true, ↓z_wkO_cons, ↓lkoW_cons, ↓z_wkO_nil]); (try simp only [Int.toNat_natCast, Nat.mul_one, Bool.or_false, Bool.false_or, Bool.or_self, Bool.or_true])
    refine ⟨0, by omega, rfl, ?_⟩
    symm
    rw [List.eq_replicate_iff]
    simp [bD]
  · rintro i hi
    (simp -dsimp only [↓z_seq, ↓z_region, ↓z_ops_plain, ↓z_binOp, ↓evW_tmp, ↓lkW_cons, ↓reduceIte, Nat.reduceEqDiff, ↓z_bn_lss, ↓z_put, Nat.reduceLT, ↓z_ops_nil, ↓z_seq_nrm, ↓z_cond, ↓z_cnd, ↓z_gdt, ↓z_skip, ↓z_block, ↓z_move, ↓z_assign, ↓z_callv, ↓z_evL_cons, ↓z_evL_nil, ↓z_indexAddr, ↓y_ty67, ↓z_elTy_sl, ↓y_sz5, ↓z_store, ↓z_put_none, ↓z_blk_nrm, ↓evW_const, ↓constW_int, inR_i64, Int.reduceNeg, Int.reduceLE, and_self, ↓z_lp_nrm, true_and, ↓z_exit, ↓z_seq_ext, ↓z_lp_ext, ↓z_blk_ext, ↓z_convert, ↓y_ty9, ↓z_cvt_bs, ↓y_ty5, ↓z_u8, ↓z_cv_bs_osl, ↓z_src_osl, ↓lkoW_cons, ↓z_allP_bytes, List.length_map, Nat.mul_one, ↓bsW_map, ↓z_ret, ↓z_end_rt, resLW, res1W, ↓z_coeL_cons, ↓z_coeL_nil, ↓z_pack1, ↓z_coe_str, D.str.injEq, z_ite]); (try simp only [Int.toNat_natCast, Nat.mul_one, Bool.or_false, Bool.false_or, Bool.or_self, Bool.or_true])
    refine ⟨fun h => ?_, fun h => ⟨by simp, ?_⟩⟩
    · show coeLW _ [D.int .i64 i] (fun ds' b => callW G Try.prog g (ds' ++ caps) b _ _)
      (simp -dsimp only [↓z_coeL_cons, ↓z_coe_int, ↓z_coeL_nil]); (try simp only [Bool.or_self])
      refine (call_fn (u := tg _) (hf i (by omega)) fun _ => ?_).get
      (simp -dsimp only [↓z_put, Nat.reduceLT, ↓evW_tmp, ↓lkW_cons, Nat.reduceEqDiff, ↓reduceIte, ↓z_ix_osl, ↓z_store_ptr, ↓lkoW_cons, Nat.mul_one, List.length_map, ↓z_so_cons, ↓z_bn_add, ↓wrW_i64, inR_i64, Int.reduceNeg, ↓z_wk, ↓z_wkE_cons, D.int.injEq, true_and, ↓z_wkE_nil, and_self, and_true, ↓z_wkO_cons, ↓z_wkO_nil, z_sps]); (try simp only [Int.toNat_natCast])
      refine ⟨by omega, by omega, (show [bD (f i)].length = 1 ∧ _ ∧ _ ∧ _ from ⟨rfl, by simp; omega, by omega, i + 1, by omega, by omega, by omega, put_upto f (by omega)⟩)⟩
    · apply List.map_congr_left
      intro k hk
      rw [List.mem_range] at hk
      rw [if_pos (by omega)]
set_option maxRecDepth 100000 in
set_option maxHeartbeats 8000000 in
theorem fn_Sum (G : Glob) (a b : List UInt8) (hla : a.length ≤ 140737488355328) (hlb : b.length ≤ 140737488355328) : Fn G Try.prog 18 [.str a, .str b] (.str (sumB a b)) := by
  refine Fn.mk (c := _) Try.func18 rfl rfl Try.ntmps18 Try.results18 ?_
  (simp -dsimp only [bodyW, List.length_cons, List.length_nil, Nat.zero_add, Nat.reduceAdd, Nat.reduceLeDiff, wfL, ↓z_seq, ↓z_region, ↓z_ops_plain, ↓z_box, ↓evW_tmp, ↓z_lk_env, ↓reduceIte, ↓z_cl_str, ↓z_nmC_cons, ↓z_mn'_str, ↓z_nmC_nil, and_self, ↓z_new, ↓z_nm_nil, Nat.reduceLT, ↓z_pg_env, ↓z_mn_str, ↓z_pg_env0, ↓z_put, ↓lkW_cons, Nat.reduceEqDiff, reduceCtorEq, ↓z_nm_cons, ↓z_pg_cons, ↓z_mn_ptr, ↓z_pg_nil, ↓z_assign, ↓evW_const, ↓constW_string, maxLen_lit, ↓z_ops_nil, ↓z_seq_nrm, ↓z_load, ↓y_ty9, ↓y_sz9, ↓z_agTy_str, ↓loadW_ptr, ↓lkoW_cons, ↓z_rd_f, ↓nthW_cons, ↓z_callb, ↓z_evL_cons, ↓z_evL_nil, ↓z_len, ↓z_ln_str, ↓z_binOp, ↓z_bn_lss, ↓z_cond, ↓z_cnd, ↓z_gdt, ↓z_store, ↓z_store_ptr, ↓spsW_cons, ↓drW_cons, ↓drW_nil, ↓z_cat_nil_r, ↓z_so_cons, ↓z_put_none, ↓z_makeFunc, ↓z_callv, ↓evW_func, ↓z_fun0, ↓z_coeL_cons, ↓z_coe_int, ↓z_coe_ofn, ↓z_coeC_cons, ↓z_coeS_ptr, ↓z_allP_cons, ↓z_isP_str, ↓z_allP_nil, ↓z_coeC_nil, ↓z_coeL_nil, true_and, ↓z_skip, z_ite])
  intro ha hb
  refine ⟨fun h => call_fnL (fn_build G 29 _ b.length (fun k => atB b k ^^^ atB a k) (fun k hk => fn_sum1 G b a k hk (by omega)) hlb) (by trivial) fun _ => ?_, fun h => call_fnL (fn_build G 29 _ a.length (fun k => atB a k ^^^ atB b k) (fun k hk => fn_sum1 G a b k hk (by omega)) hla) (by trivial) fun _ => ?_⟩
  · (simp -dsimp only [↓z_put, Nat.reduceLT, ↓z_ops_plain, ↓z_assign, ↓evW_tmp, ↓lkW_cons, ↓reduceIte, ↓z_ops_nil, ↓z_seq_nrm, ↓z_ret, ↓z_end_rt, resLW, res1W, Nat.zero_add, ↓z_coeL_cons, Nat.reduceAdd, ↓z_coeL_nil, ↓z_pack1, ↓z_coe_str, D.str.injEq, true_and]); (try simp only [Int.toNat_natCast, Nat.mul_one, Bool.or_false, Bool.false_or, Bool.or_self, Bool.or_true])
    unfold sumB
    rw [Nat.max_eq_right (by omega)]
    simp only [UInt8.xor_comm]
  · (simp -dsimp only [↓z_put, Nat.reduceLT, ↓z_ops_plain, ↓z_assign, ↓evW_tmp, ↓lkW_cons, ↓reduceIte, ↓z_ops_nil, ↓z_seq_nrm, ↓z_ret, ↓z_end_rt, resLW, res1W, Nat.zero_add, ↓z_coeL_cons, Nat.reduceAdd, ↓z_coeL_nil, ↓z_pack1, ↓z_coe_str, D.str.injEq, true_and]); (try simp only [Int.toNat_natCast, Nat.mul_one, Bool.or_false, Bool.false_or, Bool.or_self, Bool.or_true])
    unfold sumB
    rw [Nat.max_eq_left (by omega)]
set_option maxRecDepth 100000 in
set_option maxHeartbeats 8000000 in
theorem fn_refSum (G : Glob) (a b : List UInt8) (hla : a.length ≤ 140737488355328) (hlb : b.length ≤ 140737488355328) : Fn G Try.prog 24 [.str a, .str b] (.str (sumB a b)) := by
  refine Fn.mk (c := _) Try.func24 rfl rfl Try.ntmps24 Try.results24 ?_
  (simp -dsimp only [bodyW, List.length_cons, List.length_nil, Nat.zero_add, Nat.reduceAdd, Nat.reduceLeDiff, wfL, ↓z_seq, ↓z_region, ↓z_ops_plain, ↓z_assign, ↓evW_const, ↓constW_string, maxLen_lit, ↓z_put, Nat.reduceLT, ↓z_ops_nil, ↓z_seq_nrm, ↓constW_nils, ↓constW_int, inR_i64, Int.reduceNeg, Int.reduceLE, and_self, ↓z_block, ↓z_loop, true_and])
  intro _ _
  have hmx : (max a.length b.length : Int) = ((max a.length b.length : Nat) : Int) := by omega
  refine hold_intro ⟨[(5, 1)], Nat, fun i => ⟨28, 1, [(6, .int .i64 i), (5, .osl 0 1 i), (0, .str a), (1, .str b)], [(0, ((List.range i).map fun k => atB a k ^^^ atB b k).map bD)]⟩, fun i => i ≤ max a.length b.length, fun i => max a.length b.length - i, ?_, ?_⟩
  · (simp -dsimp only [↓z_ad_cons, Nat.reduceLT, ↓lkW_cons, Nat.reduceEqDiff, ↓reduceIte, ↓z_nm_nil, ↓z_pg_cons, ↓z_mn_int, ↓z_mn_nils, ↓z_mn_str, ↓z_pg_env, ↓z_pg_env0, ↓z_ad_nil, ↓z_wk, ↓z_wkE_cons, D.int.injEq, true_and, D.osl.injEq, reduceCtorEq, Nat.zero_add, ↓z_wkE_nil, and_self, and_true, ↓z_wkO_cons, ↓lkoW_cons, ↓z_wkO_nil]); (try simp only [Int.toNat_natCast, Nat.mul_one, Bool.or_false, Bool.false_or, Bool.or_self, Bool.or_true])
    exact ⟨0, by omega, by simp⟩
  · rintro i hi
    (simp -dsimp only [↓z_seq, ↓z_region, ↓z_ops_plain, ↓z_move, ↓evW_tmp, ↓lkW_cons, ↓reduceIte, ↓z_put, Nat.reduceLT, reduceCtorEq, ↓z_callb, ↓z_evL_cons, ↓z_evL_nil, ↓z_len, ↓y_ty9, ↓z_ln_str, Nat.reduceEqDiff, ↓z_max, ↓z_mx_max, ↓z_mx_nil, ↓z_binOp, ↓z_bn_lss, ↓z_ops_nil, ↓z_seq_nrm, ↓z_cond, ↓z_cnd, ↓z_gdt, ↓z_skip, ↓z_block, ↓z_callv, ↓evW_func, ↓z_fun0, ↓z_coeL_cons, ↓z_coe_str, ↓z_coe_int, ↓z_coeL_nil, true_and, ↓z_exit, ↓z_seq_ext, ↓z_lp_ext, ↓z_blk_ext, ↓z_convert, ↓y_ty67, ↓z_cvt_bs, ↓y_ty5, ↓z_u8, ↓z_cv_bs_osl, ↓z_src_osl, ↓lkoW_cons, ↓z_allP_bytes, List.length_map, Nat.mul_one, ↓bsW_map, ↓z_assign, ↓z_ret, ↓z_end_rt, resLW, res1W, ↓z_pack1, D.str.injEq, z_ite])
    refine ⟨fun h => call_fn (fn_at G a i) fun _ => ?_, fun h => ⟨by simp, ?_⟩⟩
    · (simp -dsimp only [↓z_put, Nat.reduceLT, ↓z_ops_plain, ↓z_move, ↓evW_tmp, ↓lkW_cons, Nat.reduceEqDiff, ↓reduceIte, reduceCtorEq, ↓z_callv, ↓evW_func, ↓z_evL_cons, ↓z_evL_nil, ↓z_fun0, ↓z_coeL_cons, ↓z_coe_str, ↓z_coe_int, ↓z_coeL_nil, true_and])
      refine call_fn (fn_at G b i) fun _ => ?_
      (simp -dsimp only [↓z_put, Nat.reduceLT, ↓z_ops_plain, ↓z_binOp, ↓evW_tmp, ↓lkW_cons, Nat.reduceEqDiff, ↓reduceIte, bD, ↓z_buildSlice, ↓y_ty67, ↓z_slTy, ↓y_sz5, Nat.mul_one, Nat.reduceLeDiff, maxLen_lit, ↓y_zr5, List.length_cons, List.length_nil, Nat.zero_add, ↓z_repL_s, ↓z_repL_0, ↓z_cat_nil_r, ↓z_bld_cons, ↓spsW_cons, ↓drW_cons, reduceCtorEq, ↓drW_nil, ↓z_bld_nil, ↓z_callb, ↓z_evL_cons, ↓z_evL_nil, ↓z_append, ↓z_nint_sl, ↓y_by5, ↓z_src_slx, ↓z_app_osl, ↓lkoW_cons, List.length_map, ↓z_nmC_bytes, ↓z_room, ↓z_pgo_cons, ↓z_pgc_nm, ↓z_pgo_nil, ↓z_pg_cons, ↓z_mn_slx, ↓z_mn_int, ↓z_mn_str, ↓z_mn_osl, ↓z_mn_bool, ↓z_pg_nil, ↓z_so_cons, ↓z_assign, ↓z_ops_nil, ↓z_blk_nrm, ↓z_seq_nrm, ↓z_region, ↓z_move, ↓evW_const, ↓constW_int, inR_i64, Int.reduceNeg, Int.reduceLE, and_self, ↓z_bn_add, ↓wrW_i64, ↓z_lp_nrm, ↓z_wk, ↓z_wkE_cons, D.int.injEq, true_and, D.osl.injEq, ↓z_wkE_nil, and_true, ↓z_wkO_cons, ↓z_wkO_nil, ↓z_bn_xor, ↓z_cl_int, ↓z_allP_cons, ↓z_isP_int, ↓z_allP_nil]); (try simp only [Int.toNat_natCast, Nat.mul_one, Bool.or_false, Bool.false_or, Bool.or_self, Bool.or_true])
      refine ⟨by simp, by omega, by omega, by omega, i + 1, by omega, by omega, ⟨by omega, rfl⟩, ?_⟩
      rw [xorB, List.range_succ, List.map_append, List.map_append]; rfl
    · unfold sumB
      rw [show i = max a.length b.length by omega]
set_option maxRecDepth 100000 in
set_option maxHeartbeats 8000000 in
theorem fn_Clone (G : Glob) (x : List (List UInt8)) (hx : x.length ≤ 1000000) : FnS G Try.prog 23 [.sl 1 x.length (x.map D.str)] 1 x.length (x.map D.str) := by
  refine FnS.mk (c := _) Try.func23 rfl rfl Try.ntmps23 Try.results23 ?_
  (simp -dsimp only [bodyW, List.length_cons, List.length_nil, Nat.zero_add, Nat.reduceLeDiff, wfL, ↓z_seq, ↓z_region, ↓z_ops_plain, ↓z_assign, ↓evW_const, ↓constW_nils, ↓z_put, Nat.reduceLT, ↓z_ops_nil, ↓z_seq_nrm, ↓z_move, ↓evW_tmp, ↓lkW_cons, reduceCtorEq, ↓reduceIte, ↓z_lk_env, ↓z_binOp, ↓z_bn_slnil, ↓y_ty22, ↓z_isSl, ↓z_nilW, ↓z_cond, ↓z_cnd, ↓z_gft, ↓z_skip, ↓z_buildSlice, ↓z_slTy, ↓y_sz9, Nat.mul_one, maxLen_lit, ↓y_zr9, ↓z_repL_0, ↓z_bld_nil, ↓z_allP_nil, ↓z_callb, ↓z_evL_cons, Nat.reduceEqDiff, ↓z_evL_nil, ↓z_append, ↓z_nint_sl, ↓y_by9, ↓z_src_sl, ↓z_app_slx, ↓z_room, ↓z_new, ↓z_nm_nil, ↓z_pg_cons, ↓z_mn_sl, ↓z_mn_slx, ↓z_mn_bool, ↓z_mn_nils, ↓z_pg_env, ↓z_pg_env0, ↓z_ret, ↓z_end_rt, resLW, res1W, ↓z_own_osl, ↓lkoW_cons, ↓z_allP_str, List.length_map, and_self, List.nil_append, and_true, true_and, ↓z_seq_rt, ↓z_own_nils, z_gvar]); (try simp only [Int.toNat_natCast, Nat.mul_one, Bool.or_false, Bool.false_or, Bool.or_self, Bool.or_true])
  intro _
  refine ⟨fun h => ⟨by omega, by omega, .inl trivial⟩, fun h b => ?_⟩
  have e : x = [] := List.length_eq_zero_iff.1 h
  subst e
  exact ⟨fun _ => ⟨rfl, rfl⟩, fun _ => ⟨by simp, by simp, .inl trivial⟩⟩
end Go.Abs

