/-
  HASH, eighth walks: lists of parts; hashes and digests as strings.
-/
import Derived.Test.YtokenlcigigamaaDoorH7
namespace Go.Abs
open Go.Proofs
theorem take_eq_all {α : Type} {a b : List α} (hl : a.length = b.length) {i : Nat} (hi : a.length ≤ i) (h : a.take i = b.take i) : a = b := by
  rwa [List.take_of_length_le hi, List.take_of_length_le (by omega)] at h
theorem take_succ_eq {α : Type} {a b : List α} {i : Nat} (ha : i < a.length) (hb : i < b.length) (h : a.take i = b.take i) (he : a[i] = b[i]) : a.take (i + 1) = b.take (i + 1) := by
  have e1 : a.take (i + 1) = a.take i ++ [a[i]] := by simp
  have e2 : b.take (i + 1) = b.take i ++ [b[i]] := by simp
  rw [e1, e2, h, he]
theorem flat_s {l : List (List UInt8)} {i : Nat} (h : i < l.length) : (l.take (i + 1)).flatten = (l.take i).flatten ++ l[i] := by
  have e1 : l.take (i + 1) = l.take i ++ [l[i]] := by simp
  rw [e1, List.flatten_append]; simp
theorem flat_le (l : List (List UInt8)) (i : Nat) : (l.take i).flatten.length ≤ l.flatten.length := by
  have e : l.flatten = (l.take i).flatten ++ (l.drop i).flatten := by rw [← List.flatten_append, List.take_append_drop]
  rw [e, List.length_append]; omega
theorem bD_take_s {h : List UInt8} {i : Nat} (hi : i < h.length) : (h.take i).map bD ++ [D.int .u8 h[i].toNat] = (h.take (i + 1)).map bD := by
  have e1 : h.take (i + 1) = h.take i ++ [h[i]] := by simp
  rw [e1, List.map_append]; rfl
/-- The first bytes of a hash, as they are copied. -/
def cpK (h : List UInt8) (i : Nat) : List UInt8 := h.take i ++ List.replicate (16 - i) 0
theorem cpK_len {h : List UInt8} {i : Nat} (hl : 16 ≤ h.length) (hi : i ≤ 16) : (cpK h i).length = 16 := by simp [cpK]; omega
theorem cpK_s {h : List UInt8} {i : Nat} (hl : 16 ≤ h.length) (hi : i < 16) : (cpK h i).take i ++ [h[i]] ++ (cpK h i).drop (i + 1) = cpK h (i + 1) := by
  have l : (h.take i).length = i := by rw [List.length_take]; omega
  unfold cpK
  rw [List.take_left' l, List.drop_append, List.drop_of_length_le (by omega), l, List.take_add_one, List.getElem?_eq_getElem (by omega)]
  simp [List.drop_replicate]
  omega
theorem cpK_end {h : List UInt8} : cpK h 16 = h.take 16 := by simp [cpK]
abbrev fewP (l : List (List UInt8)) : Prop := l.length ≤ 12 ∧ ∀ x ∈ l, x.length ≤ 400
set_option maxRecDepth 100000 in
set_option maxHeartbeats 8000000 in
theorem fn_Few (G : Glob) (l : List (List UInt8)) : Fn G Tryd.prog 15 [.sl 1 l.length (l.map D.str)] (.bool (decide (fewP l))) := by
  refine Fn.mk (c := _) Tryd.func15 rfl rfl Tryd.ntmps15 Tryd.results15 ?_
  (simp -dsimp only [bodyW, List.length_cons, List.length_nil, Nat.zero_add, Nat.reduceLeDiff, wfL, ↓z_seq, ↓z_region, ↓z_ops_plain, ↓z_assign, ↓evW_const, ↓constW_bool, ↓z_put, Nat.reduceLT, ↓z_ops_nil, ↓z_seq_nrm, ↓z_move, ↓evW_tmp, ↓lkW_cons, reduceCtorEq, ↓reduceIte, ↓z_lk_env, ↓z_callb, ↓z_evL_cons, ↓z_evL_nil, ↓z_len, ↓y_ty27, ↓z_ln_sl, ↓z_binOp, ↓constW_int, inR_i64, Int.reduceNeg, Int.reduceLE, and_self, ↓z_bn_gtr, ↓z_cond, ↓z_cnd, ↓z_gdt, ↓z_ret, ↓z_seq_rt, ↓z_end_rt, resLW, res1W, ↓z_envF_cons, ↓z_envF_nil, ↓z_coeL_cons, ↓z_coeL_nil, ↓z_pack1, ↓z_coe_bool, D.bool.injEq, true_and, ↓z_skip, ↓z_block, ↓z_loop, z_ite])
  intro _
  refine ⟨fun h => (decide_eq_false fun hh => by have := hh.1; omega).symm, fun h => ?_⟩
  refine hold_intro ⟨[], Nat, fun i => ⟨19, 0, [(3, .int .i64 i), (0, .sl 1 l.length (l.map D.str))], []⟩, fun i => i ≤ l.length ∧ ∀ j (hj : j < l.length), j < i → l[j].length ≤ 400, fun i => l.length - i, ?_, ?_⟩
  · (simp -dsimp only [↓z_ad_nil, ↓z_wk, ↓z_wkE_cons, ↓lkW_cons, ↓reduceIte, D.int.injEq, true_and, reduceCtorEq, ↓z_lk_env, ↓z_wkE_nil, and_self, and_true, ↓z_wkO_nil]); (try simp only [Int.toNat_natCast, Nat.mul_one, Bool.or_false, Bool.false_or, Bool.or_self, Bool.or_true])
    exact ⟨0, ⟨by omega, fun j _ hj => by omega⟩, rfl⟩
  rintro i ⟨hi, hA⟩
  (simp -dsimp only [↓z_seq, ↓z_region, ↓z_ops_plain, ↓z_move, ↓evW_tmp, ↓lkW_cons, ↓reduceIte, ↓z_put, Nat.reduceLT, reduceCtorEq, ↓z_callb, ↓z_evL_cons, ↓z_evL_nil, ↓z_len, ↓y_ty27, ↓z_ln_sl, ↓z_binOp, Nat.reduceEqDiff, ↓z_bn_lss, ↓z_ops_nil, ↓z_seq_nrm, ↓z_cond, ↓z_cnd, ↓z_gdt, ↓z_skip, ↓z_block, ↓z_indexAddr, ↓z_elTy_sl, ↓y_sz9, ↓z_ix_sl, ↓z_load, ↓y_ty9, ↓z_agTy_str, ↓loadW_rop, ↓z_rd_f, ↓z_nth_str, ↓z_ln_str, ↓evW_const, ↓constW_int, inR_i64, Int.reduceNeg, Int.reduceLE, and_self, ↓z_bn_gtr, Nat.mul_one, ↓z_assign, ↓constW_bool, ↓z_ret, ↓z_blk_rt, ↓z_seq_rt, ↓z_lp_rt, ↓z_end_rt, resLW, res1W, ↓z_coeL_cons, ↓z_coeL_nil, ↓z_pack1, ↓z_coe_bool, D.bool.injEq, true_and, ↓z_blk_nrm, ↓z_bn_add, ↓wrW_i64, ↓z_lp_nrm, ↓z_wk, ↓z_wkE_cons, D.int.injEq, ↓z_wkE_nil, and_true, ↓z_wkO_nil, z_ite, ↓z_exit, ↓z_seq_ext, ↓z_lp_ext, ↓z_blk_ext]); (try simp only [Int.toNat_natCast])
  refine ⟨fun h => ⟨by omega, by omega, by omega, fun h4 => (decide_eq_false fun hh => by have := hh.2 _ (List.getElem_mem (show i < l.length by omega)); omega).symm, fun h4 => ⟨by omega, i + 1, ⟨by omega, fun j hj hji => ?_⟩, by omega, by omega⟩⟩, fun h => (decide_eq_true ⟨by omega, fun x hx => ?_⟩).symm⟩
  · rcases Nat.lt_or_ge j i with hlt | hge
    · exact hA j hj hlt
    · have : j = i := by omega
      subst this; omega
  · obtain ⟨j, hj, rfl⟩ := List.getElem_of_mem hx
    exact hA j hj (by omega)
set_option maxRecDepth 100000 in
set_option maxHeartbeats 8000000 in
theorem fn_Joined (G : Glob) (l : List (List UInt8)) (hl : l.flatten.length ≤ 1000000000) : Fn G Tryd.prog 18 [.sl 1 l.length (l.map D.str)] (.str l.flatten) := by
  refine Fn.mk (c := _) Tryd.func18 rfl rfl Tryd.ntmps18 Tryd.results18 ?_
  (simp -dsimp only [bodyW, List.length_cons, List.length_nil, Nat.zero_add, Nat.reduceLeDiff, wfL, ↓z_seq, ↓z_region, ↓z_ops_plain, ↓z_assign, ↓evW_const, ↓constW_string, maxLen_lit, ↓z_put, Nat.reduceLT, ↓z_ops_nil, ↓z_seq_nrm, ↓constW_int, inR_i64, Int.reduceNeg, Int.reduceLE, and_self, ↓z_block, ↓z_loop, true_and])
  intro hw
  have hw' : l.length ≤ 9223372036854775807 := hw.1.1
  refine hold_intro ⟨[], Nat, fun i => ⟨18, 0, [(4, .int .i64 i), (3, .str (l.take i).flatten), (0, .sl 1 l.length (l.map D.str))], []⟩, fun i => i ≤ l.length, fun i => l.length - i, ?_, ?_⟩
  · (simp -dsimp only [↓z_ad_nil, ↓z_wk, ↓z_wkE_cons, ↓lkW_cons, ↓reduceIte, D.int.injEq, true_and, Nat.reduceEqDiff, D.str.injEq, reduceCtorEq, ↓z_lk_env, ↓z_wkE_nil, and_self, and_true, ↓z_wkO_nil]); (try simp only [Int.toNat_natCast, Nat.mul_one, Bool.or_false, Bool.false_or, Bool.or_self, Bool.or_true])
    exact ⟨0, by omega, rfl, rfl⟩
  rintro i hi
  (simp -dsimp only [↓z_seq, ↓z_region, ↓z_ops_plain, ↓z_move, ↓evW_tmp, ↓lkW_cons, ↓reduceIte, ↓z_put, Nat.reduceLT, reduceCtorEq, ↓z_callb, ↓z_evL_cons, ↓z_evL_nil, ↓z_len, ↓y_ty27, ↓z_ln_sl, ↓z_binOp, Nat.reduceEqDiff, ↓z_bn_lss, ↓z_ops_nil, ↓z_seq_nrm, ↓z_cond, ↓z_cnd, ↓z_gdt, ↓z_skip, ↓z_block, ↓z_indexAddr, ↓z_elTy_sl, ↓y_sz9, ↓z_ix_sl, ↓z_load, ↓y_ty9, ↓z_agTy_str, ↓loadW_rop, ↓z_rd_f, ↓z_nth_str, ↓z_bn_sadd, Nat.mul_one, maxLen_lit, ↓z_assign, ↓z_blk_nrm, ↓evW_const, ↓constW_int, inR_i64, Int.reduceNeg, Int.reduceLE, and_self, ↓z_bn_add, ↓wrW_i64, ↓z_lp_nrm, ↓z_wk, ↓z_wkE_cons, D.int.injEq, true_and, D.str.injEq, ↓z_wkE_nil, and_true, ↓z_wkO_nil, ↓z_exit, ↓z_seq_ext, ↓z_lp_ext, ↓z_blk_ext, ↓z_ret, ↓z_end_rt, resLW, res1W, ↓z_coeL_cons, ↓z_coeL_nil, ↓z_pack1, ↓z_coe_str, z_ite]); (try simp only [Int.toNat_natCast])
  refine ⟨fun h => ?_, fun h => by rw [List.take_of_length_le (by omega)]⟩
  have hs := flat_s (l := l) (i := i) (by omega)
  have hle := flat_le l (i + 1)
  rw [hs, List.length_append] at hle
  exact ⟨by omega, by omega, by omega, by omega, by omega, i + 1, by omega, by omega, by omega, hs.symm⟩
set_option maxRecDepth 100000 in
set_option maxHeartbeats 8000000 in
theorem fn_rSame (G : Glob) (a b : List (List UInt8)) : Fn G Tryd.prog 22 [.sl 1 a.length (a.map D.str), .sl 1 b.length (b.map D.str)] (.bool (decide (a = b))) := by
  refine Fn.mk (c := _) Tryd.func22 rfl rfl Tryd.ntmps22 Tryd.results22 ?_
  (simp -dsimp only [bodyW, List.length_cons, List.length_nil, Nat.zero_add, Nat.reduceAdd, Nat.reduceLeDiff, wfL, ↓z_seq, ↓z_region, ↓z_ops_plain, ↓z_assign, ↓evW_const, ↓constW_bool, ↓z_put, Nat.reduceLT, ↓z_ops_nil, ↓z_seq_nrm, ↓z_move, ↓evW_tmp, ↓lkW_cons, reduceCtorEq, ↓reduceIte, ↓z_lk_env, ↓z_callb, ↓z_evL_cons, ↓z_evL_nil, ↓z_len, ↓y_ty27, ↓z_ln_sl, Nat.reduceEqDiff, ↓z_binOp, ↓z_bn_neq, ↓z_cond, ↓z_cnd, ↓z_gdt, ne_eq, ↓z_ret, ↓z_seq_rt, ↓z_end_rt, resLW, res1W, ↓z_envF_cons, ↓z_envF_nil, ↓z_coeL_cons, ↓z_coeL_nil, ↓z_pack1, ↓z_coe_bool, D.bool.injEq, true_and, ↓z_skip, ↓constW_int, inR_i64, Int.reduceNeg, Int.reduceLE, and_self, ↓z_block, ↓z_loop, z_ite, Classical.not_not])
  intro hw _
  have hw' : a.length ≤ 9223372036854775807 := hw.1.1
  refine ⟨fun h => (decide_eq_false fun e => h (by rw [e])).symm, fun h => hold_intro ⟨[], Nat, fun i => ⟨26, 0, [(0, .sl 1 a.length (a.map (D.str))), (1, .sl 1 b.length (b.map (D.str))), (5, .int .i64 i)], []⟩, fun i => i ≤ a.length ∧ a.take i = b.take i, fun i => a.length - i, ?_, ?_⟩⟩
  · (simp -dsimp only [↓z_ad_nil, ↓z_wk, ↓z_wkE_cons, ↓lkW_cons, reduceCtorEq, ↓reduceIte, ↓z_lk_env, Nat.reduceEqDiff, Nat.zero_add, D.int.injEq, true_and, ↓z_wkE_nil, and_true, ↓z_wkO_nil]); (try simp only [Int.toNat_natCast, Nat.mul_one, Bool.or_false, Bool.false_or, Bool.or_self, Bool.or_true])
    exact ⟨0, by simp, rfl⟩
  · rintro i ⟨hi, he⟩
    (simp -dsimp only [↓z_seq, ↓z_region, ↓z_ops_plain, ↓z_move, ↓evW_tmp, ↓lkW_cons, reduceCtorEq, ↓reduceIte, Nat.reduceEqDiff, ↓z_put, Nat.reduceLT, ↓z_callb, ↓z_evL_cons, ↓z_evL_nil, ↓z_len, ↓y_ty27, ↓z_ln_sl, ↓z_binOp, ↓z_bn_lss, ↓z_ops_nil, ↓z_seq_nrm, ↓z_cond, ↓z_cnd, ↓z_gdt, ↓z_skip, ↓z_block, ↓z_region_d, ↓y_mix, true_and, ↓z_exit, ↓z_seq_ext, ↓z_lp_ext, ↓z_blk_ext, ↓z_assign, ↓evW_const, ↓constW_bool, ↓z_ret, ↓z_end_rt, resLW, res1W, ↓z_coeL_cons, ↓z_coeL_nil, ↓z_pack1, ↓z_coe_bool, D.bool.injEq, z_ite])
    have hlen : a.length = b.length := by omega
    refine ⟨fun hlt => rgn_q (by decide +kernel) rfl ?_, fun hge => ?_⟩
    · (simp -dsimp only [↓z_ops_plain, ↓z_move, ↓evW_tmp, ↓lkW_cons, reduceCtorEq, ↓reduceIte, ↓z_put, Nat.reduceLT, Nat.reduceEqDiff, ↓z_indexAddr, ↓y_ty27, ↓z_elTy_sl, ↓y_sz9, ↓z_ix_sl, ↓z_load, ↓y_ty9, ↓z_agTy_str, ↓loadW_rop, ↓z_rd_f, ↓z_nth_str, ↓z_binOp, ↓z_bn_sneq, ↓z_ops_nil, ↓z_seq_nrm, ↓z_cond, ↓z_cnd, ↓z_gdt, Nat.mul_one, ne_eq, ↓z_seq, ↓z_region, ↓z_assign, ↓evW_const, ↓constW_bool, ↓z_ret, ↓z_blk_rt, ↓z_seq_rt, ↓z_lp_rt, ↓z_end_rt, resLW, res1W, ↓z_coeL_cons, ↓z_coeL_nil, ↓z_pack1, ↓z_coe_bool, D.bool.injEq, true_and, ↓z_skip, ↓z_blk_nrm, ↓constW_int, inR_i64, Int.reduceNeg, Int.reduceLE, and_self, ↓z_bn_add, ↓wrW_i64, ↓z_lp_nrm, ↓z_wk, ↓z_wkE_cons, D.int.injEq, ↓z_wkE_nil, and_true, ↓z_wkO_nil, z_ite, Classical.not_not]); (try simp only [Int.toNat_natCast])
      refine ⟨by omega, by omega, by omega, by omega, by omega, by omega, fun hne => ?_, fun heq => ⟨by omega, i + 1, ⟨by omega, take_succ_eq (by omega) (by omega) he heq⟩, by omega, by omega⟩⟩
      have : a ≠ b := fun e => hne (by subst e; rfl)
      simp [this]
    · have : a = b := take_eq_all hlen (by omega) he
      simp [this]
set_option maxRecDepth 100000 in
set_option maxHeartbeats 8000000 in
theorem fn_Bytes32 (G : Glob) (h : List UInt8) (hh : h.length = 32) : Fn G Tryd.prog 27 [.agg (h.map bD)] (.str h) := by
  refine Fn.mk (c := _) Tryd.func27 rfl rfl Tryd.ntmps27 Tryd.results27 ?_
  (simp -dsimp only [bodyW, List.length_cons, List.length_nil, Nat.zero_add, Nat.reduceLeDiff, wfL, ↓z_seq, ↓z_region, ↓z_ops_plain, ↓z_box, ↓evW_tmp, ↓z_lk_env, ↓reduceIte, ↓z_cl_agg, ↓z_nmC_bytes, ↓z_new, ↓z_nm_nil, Nat.reduceLT, ↓z_pg_env, ↓z_mn_agg, ↓z_pg_env0, ↓z_put, ↓z_assign, ↓evW_const, ↓constW_string, maxLen_lit, ↓z_ops_nil, ↓z_seq_nrm, ↓constW_nils, ↓constW_int, inR_i64, Int.reduceNeg, Int.reduceLE, and_self, ↓z_block, ↓z_loop, true_and])
  intro _
  refine hold_intro ⟨[(3, 1)], Nat, fun i => ⟨17, 2, [(4, .int .i64 i), (3, .osl 1 1 i), (1, .ptr 0 0)], [(1, (h.take i).map bD), (0, h.map bD)]⟩, fun i => i ≤ 32, fun i => 32 - i, ?_, ?_⟩
  · (simp -dsimp only [↓z_ad_cons, Nat.reduceLT, ↓lkW_cons, Nat.reduceEqDiff, ↓reduceIte, ↓z_nm_cons, ↓z_nmC_bytes, ↓z_nm_nil, Nat.zero_add, ↓z_pg_cons, ↓z_mn_int, ↓z_mn_nils, ↓z_mn_str, ↓z_mn_ptr, reduceCtorEq, ↓z_mn_agg, ↓z_pg_nil, ↓z_ad_nil, ↓z_wk, ↓z_wkE_cons, D.int.injEq, true_and, D.osl.injEq, ↓z_wkE_nil, and_self, and_true, ↓z_wkO_cons, ↓lkoW_cons, ↓z_wkO_nil]); (try simp only [Int.toNat_natCast, Nat.mul_one, Bool.or_false, Bool.false_or, Bool.or_self, Bool.or_true])
    exact ⟨0, by omega, ⟨rfl, rfl⟩, rfl⟩
  rintro i hi
  have ht : (h.take i).length = i := by rw [List.length_take]; omega
  (simp -dsimp only [↓z_seq, ↓z_region, ↓z_ops_plain, ↓z_move, ↓evW_tmp, ↓lkW_cons, ↓reduceIte, ↓z_put, Nat.reduceLT, ↓z_binOp, ↓evW_const, ↓constW_int, inR_i64, Int.reduceNeg, Int.reduceLE, and_self, ↓z_bn_lss, ↓z_ops_nil, ↓z_seq_nrm, ↓z_cond, ↓z_cnd, ↓z_gdt, ↓z_skip, ↓z_block, Nat.reduceEqDiff, ↓z_indexAddr, ↓y_ty24, ↓z_elTy_arr, ↓y_sz5, ↓z_ix_ptr, ↓z_load, ↓y_ty5, ↓z_agTy_int, ↓loadW_ptr, ↓lkoW_cons, reduceCtorEq, ↓z_rd_f, ↓z_nth_bytes, ↓z_buildSlice, ↓y_ty22, ↓z_slTy, Nat.mul_one, Nat.reduceLeDiff, maxLen_lit, ↓y_zr5, List.length_cons, List.length_nil, Nat.zero_add, ↓z_repL_s, ↓z_repL_0, ↓z_cat_nil_r, ↓z_bld_cons, ↓z_cl_int, ↓spsW_cons, ↓drW_cons, ↓drW_nil, ↓z_bld_nil, ↓z_allP_cons, ↓z_isP_int, ↓z_allP_nil, ↓z_callb, ↓z_evL_cons, ↓z_evL_nil, ↓z_append, ↓z_nint_sl, ↓y_by5, ↓z_src_slx, ↓z_app_osl, List.length_map, ht, ↓z_nmC_bytes, ↓z_room, ↓z_pgo_cons, ↓z_pgc_nm, ↓z_pgo_nil, ↓z_pg_cons, ↓z_mn_slx, ↓z_mn_int, ↓z_mn_ptr, ↓z_mn_osl, ↓z_mn_bool, ↓z_pg_nil, ↓z_so_cons, ↓z_assign, ↓z_blk_nrm, ↓z_bn_add, ↓wrW_i64, ↓z_lp_nrm, ↓z_wk, ↓z_wkE_cons, D.int.injEq, true_and, D.osl.injEq, ↓z_wkE_nil, and_true, ↓z_wkO_cons, ↓z_wkO_nil, hh, ↓z_exit, ↓z_seq_ext, ↓z_lp_ext, ↓z_blk_ext, ↓z_convert, ↓y_ty9, ↓z_cvt_bs, ↓z_u8, ↓z_cv_bs_osl, ↓z_src_osl, ↓z_allP_bytes, ↓bsW_map, ↓z_ret, ↓z_end_rt, resLW, res1W, ↓z_coeL_cons, ↓z_coeL_nil, ↓z_pack1, ↓z_coe_str, D.str.injEq, z_ite]); (try simp only [Int.toNat_natCast])
  refine ⟨fun hlt => ⟨by omega, by omega, by omega, by omega, by omega, by omega, i + 1, by omega, by omega, ⟨by omega, by omega⟩, bD_take_s (by omega)⟩, fun hge => List.take_of_length_le (by omega)⟩
set_option maxRecDepth 100000 in
set_option maxHeartbeats 8000000 in
theorem fn_Text (G : Glob) (h : List UInt8) (hh : h.length = 16) : Fn G Tryd.prog 34 [.agg (h.map bD)] (.str h) := by
  refine Fn.mk (c := _) Tryd.func34 rfl rfl Tryd.ntmps34 Tryd.results34 ?_
  (simp -dsimp only [bodyW, List.length_cons, List.length_nil, Nat.zero_add, Nat.reduceLeDiff, wfL, ↓z_seq, ↓z_region, ↓z_ops_plain, ↓z_box, ↓evW_tmp, ↓z_lk_env, ↓reduceIte, ↓z_cl_agg, ↓z_nmC_bytes, ↓z_new, ↓z_nm_nil, Nat.reduceLT, ↓z_pg_env, ↓z_mn_agg, ↓z_pg_env0, ↓z_put, ↓z_assign, ↓evW_const, ↓constW_string, maxLen_lit, ↓z_ops_nil, ↓z_seq_nrm, ↓constW_nils, ↓constW_int, inR_i64, Int.reduceNeg, Int.reduceLE, and_self, ↓z_block, ↓z_loop, true_and])
  intro _
  refine hold_intro ⟨[(3, 1)], Nat, fun i => ⟨17, 2, [(4, .int .i64 i), (3, .osl 1 1 i), (1, .ptr 0 0)], [(1, (h.take i).map bD), (0, h.map bD)]⟩, fun i => i ≤ 16, fun i => 16 - i, ?_, ?_⟩
  · (simp -dsimp only [↓z_ad_cons, Nat.reduceLT, ↓lkW_cons, Nat.reduceEqDiff, ↓reduceIte, ↓z_nm_cons, ↓z_nmC_bytes, ↓z_nm_nil, Nat.zero_add, ↓z_pg_cons, ↓z_mn_int, ↓z_mn_nils, ↓z_mn_str, ↓z_mn_ptr, reduceCtorEq, ↓z_mn_agg, ↓z_pg_nil, ↓z_ad_nil, ↓z_wk, ↓z_wkE_cons, D.int.injEq, true_and, D.osl.injEq, ↓z_wkE_nil, and_self, and_true, ↓z_wkO_cons, ↓lkoW_cons, ↓z_wkO_nil]); (try simp only [Int.toNat_natCast, Nat.mul_one, Bool.or_false, Bool.false_or, Bool.or_self, Bool.or_true])
    exact ⟨0, by omega, ⟨rfl, rfl⟩, rfl⟩
  rintro i hi
  have ht : (h.take i).length = i := by rw [List.length_take]; omega
  (simp -dsimp only [↓z_seq, ↓z_region, ↓z_ops_plain, ↓z_move, ↓evW_tmp, ↓lkW_cons, ↓reduceIte, ↓z_put, Nat.reduceLT, ↓z_binOp, ↓evW_const, ↓constW_int, inR_i64, Int.reduceNeg, Int.reduceLE, and_self, ↓z_bn_lss, ↓z_ops_nil, ↓z_seq_nrm, ↓z_cond, ↓z_cnd, ↓z_gdt, ↓z_skip, ↓z_block, Nat.reduceEqDiff, ↓z_indexAddr, ↓y_ty41, ↓z_elTy_arr, ↓y_sz5, ↓z_ix_ptr, ↓z_load, ↓y_ty5, ↓z_agTy_int, ↓loadW_ptr, ↓lkoW_cons, reduceCtorEq, ↓z_rd_f, ↓z_nth_bytes, ↓z_buildSlice, ↓y_ty22, ↓z_slTy, Nat.mul_one, Nat.reduceLeDiff, maxLen_lit, ↓y_zr5, List.length_cons, List.length_nil, Nat.zero_add, ↓z_repL_s, ↓z_repL_0, ↓z_cat_nil_r, ↓z_bld_cons, ↓z_cl_int, ↓spsW_cons, ↓drW_cons, ↓drW_nil, ↓z_bld_nil, ↓z_allP_cons, ↓z_isP_int, ↓z_allP_nil, ↓z_callb, ↓z_evL_cons, ↓z_evL_nil, ↓z_append, ↓z_nint_sl, ↓y_by5, ↓z_src_slx, ↓z_app_osl, List.length_map, ht, ↓z_nmC_bytes, ↓z_room, ↓z_pgo_cons, ↓z_pgc_nm, ↓z_pgo_nil, ↓z_pg_cons, ↓z_mn_slx, ↓z_mn_int, ↓z_mn_ptr, ↓z_mn_osl, ↓z_mn_bool, ↓z_pg_nil, ↓z_so_cons, ↓z_assign, ↓z_blk_nrm, ↓z_bn_add, ↓wrW_i64, ↓z_lp_nrm, ↓z_wk, ↓z_wkE_cons, D.int.injEq, true_and, D.osl.injEq, ↓z_wkE_nil, and_true, ↓z_wkO_cons, ↓z_wkO_nil, hh, ↓z_exit, ↓z_seq_ext, ↓z_lp_ext, ↓z_blk_ext, ↓z_convert, ↓y_ty9, ↓z_cvt_bs, ↓z_u8, ↓z_cv_bs_osl, ↓z_src_osl, ↓z_allP_bytes, ↓bsW_map, ↓z_ret, ↓z_end_rt, resLW, res1W, ↓z_coeL_cons, ↓z_coeL_nil, ↓z_pack1, ↓z_coe_str, D.str.injEq, z_ite]); (try simp only [Int.toNat_natCast])
  refine ⟨fun hlt => ⟨by omega, by omega, by omega, by omega, by omega, by omega, i + 1, by omega, by omega, ⟨by omega, by omega⟩, bD_take_s (by omega)⟩, fun hge => List.take_of_length_le (by omega)⟩
set_option maxRecDepth 100000 in
set_option maxHeartbeats 8000000 in
theorem fn_clash (G : Glob) (a b : List UInt8) (ha : a.length = 32) (hb : b.length = 32) : Fn G Tryd.prog 24 [.agg (a.map bD), .agg (b.map bD)] (.bool (decide (a.take 16 = b.take 16))) := by
  refine Fn.mk (c := _) Tryd.func24 rfl rfl Tryd.ntmps24 Tryd.results24 ?_
  (simp -dsimp only [bodyW, List.length_cons, List.length_nil, Nat.zero_add, Nat.reduceAdd, Nat.reduceLeDiff, wfL, ↓z_seq, ↓z_region, ↓z_ops_plain, ↓z_box, ↓evW_tmp, ↓z_lk_env, ↓reduceIte, ↓z_cl_agg, ↓z_nmC_bytes, ↓z_new, ↓z_nm_nil, Nat.reduceLT, ↓z_pg_env, ↓z_mn_agg, ↓z_pg_env0, ↓z_put, ↓lkW_cons, Nat.reduceEqDiff, reduceCtorEq, ↓z_nm_cons, ↓z_pg_cons, ↓z_mn_ptr, ↓z_pg_nil, ↓z_assign, ↓evW_const, ↓constW_bool, ↓z_ops_nil, ↓z_seq_nrm, ↓constW_int, inR_i64, Int.reduceNeg, Int.reduceLE, and_self, ↓z_block, ↓z_loop, true_and])
  intro _ _
  refine hold_intro ⟨[], Nat, fun i => ⟨17, 2, [(5, .int .i64 i), (2, .ptr 0 0), (3, .ptr 1 0)], [(1, b.map bD), (0, a.map bD)]⟩, fun i => i ≤ 16 ∧ a.take i = b.take i, fun i => 16 - i, ?_, ?_⟩
  · (simp -dsimp only [↓z_ad_nil, ↓z_wk, ↓z_wkE_cons, ↓lkW_cons, ↓reduceIte, D.int.injEq, true_and, Nat.reduceEqDiff, Nat.zero_add, ↓z_wkE_nil, and_self, and_true, ↓z_wkO_cons, ↓lkoW_cons, reduceCtorEq, ↓z_wkO_nil]); (try simp only [Int.toNat_natCast, Nat.mul_one, Bool.or_false, Bool.false_or, Bool.or_self, Bool.or_true])
    exact ⟨0, by simp, rfl⟩
  rintro i ⟨hi, he⟩
  (simp -dsimp only [↓z_seq, ↓z_region, ↓z_ops_plain, ↓z_move, ↓evW_tmp, ↓lkW_cons, ↓reduceIte, ↓z_put, Nat.reduceLT, ↓z_binOp, ↓evW_const, ↓constW_int, inR_i64, Int.reduceNeg, Int.reduceLE, and_self, ↓z_bn_lss, ↓z_ops_nil, ↓z_seq_nrm, ↓z_cond, ↓z_cnd, ↓z_gdt, ↓z_skip, ↓z_block, ↓z_region_d, ↓y_mix, true_and, ↓z_exit, ↓z_seq_ext, ↓z_lp_ext, ↓z_blk_ext, ↓z_assign, ↓constW_bool, ↓z_ret, ↓z_end_rt, resLW, res1W, ↓z_coeL_cons, ↓z_coeL_nil, ↓z_pack1, ↓z_coe_bool, D.bool.injEq, z_ite])
  refine ⟨fun hlt => rgn_d (by decide +kernel) ?_, fun hge => ?_⟩
  · (simp -dsimp only [↓z_drw_move, ↓z_drwS, ↓z_grd_none, ↓z_withE, ↓z_rd_tmp, ↓lkW_cons, Nat.reduceEqDiff, ↓reduceIte, ↓z_rd_nil, ↓z_ap_cons, ↓z_ap_nil, ↓z_or_move, ↓z_move, ↓evW_tmp, and_true, ↓z_exD_all, ↓z_exD_eq, ↓z_put, Nat.reduceLT, ↓z_drwK, ↓z_drw_indexAddr, ↓z_or_indexAddr, ↓z_indexAddr, ↓y_ty24, ↓z_elTy_arr, ↓y_sz5, ↓z_ix_ptr, Nat.mul_one, Nat.zero_add, ↓z_exD_and, ↓z_drw_load, ↓z_or_load, ↓z_load, ↓y_ty5, ↓z_agTy_int, ↓loadW_ptr, ↓lkoW_cons, reduceCtorEq, ↓z_rd_f, ↓z_nth_bytes, ha, ↓z_exD_ex, hb, ↓z_drw_binOp, ↓z_or_binOp, ↓z_binOp, ↓z_bn_neq, ne_eq, ↓z_drw_nil, ↓z_seq_nrm, ↓z_cond, ↓z_cnd, ↓z_gdt, ↓z_seq, ↓z_region, ↓z_ops_plain, ↓z_assign, ↓evW_const, ↓constW_bool, ↓z_ops_nil, ↓z_ret, ↓z_blk_rt, ↓z_seq_rt, ↓z_lp_rt, ↓z_end_rt, resLW, res1W, ↓z_coeL_cons, ↓z_coeL_nil, ↓z_pack1, ↓z_coe_bool, D.bool.injEq, true_and, ↓z_skip, ↓z_blk_nrm, ↓constW_int, inR_i64, Int.reduceNeg, Int.reduceLE, and_self, ↓z_bn_add, ↓wrW_i64, ↓z_lp_nrm, ↓z_wk, ↓z_wkE_cons, D.int.injEq, ↓z_wkE_nil, ↓z_wkO_cons, ↓z_wkO_nil, z_ite, Classical.not_not]); (try simp only [Int.toNat_natCast])
    refine ⟨by omega, by omega, by omega, by omega, by omega, by omega, fun hne => (decide_eq_false fun e => hne ?_).symm, fun heq => ⟨by omega, i + 1, ⟨by omega, take_succ_eq (by omega) (by omega) he (UInt8.toNat.inj (by omega))⟩, by omega, by omega⟩⟩
    have e1 : (a.take 16)[i]'(by rw [List.length_take]; omega) = (b.take 16)[i]'(by rw [List.length_take]; omega) := by simp only [e]
    rw [List.getElem_take, List.getElem_take] at e1
    rw [e1]
  · have : i = 16 := by omega
    subst this
    exact (decide_eq_true he).symm
set_option maxRecDepth 100000 in
set_option maxHeartbeats 8000000 in
theorem fn_Short (b : List UInt8) (hb : b.length ≤ 10000000000) : Fn GK Tryd.prog 40 [.sl 1 b.length (b.map bD)] (.agg (((sha b).take 16).map bD)) := by
  refine Fn.mk (c := _) Tryd.func40 rfl rfl Tryd.ntmps40 Tryd.results40 ?_
  (simp -dsimp only [bodyW, List.length_cons, List.length_nil, Nat.zero_add, Nat.reduceLeDiff, wfL, ↓z_seq, ↓z_region, ↓z_ops_plain, ↓z_alloc, ↓y_zr41, ↓z_new, ↓z_nm_nil, Nat.reduceLT, ↓z_pg_env, ↓z_mn_sl, ↓z_pg_env0, ↓z_put, ↓z_ops_nil, ↓z_seq_nrm, ↓z_move, ↓evW_tmp, ↓lkW_cons, reduceCtorEq, ↓reduceIte, ↓z_callv, ↓evW_func, ↓z_evL_cons, ↓z_evL_nil, ↓z_fun0, ↓z_coeL_cons, ↓z_coe_sl, ↓z_coeL_nil, true_and])
  intro _
  refine call_fn (fn_rSum b hb) fun _ => ?_
  have ls := sha_len b
  generalize sha b = h at ls
  (simp -dsimp only [↓z_put, Nat.reduceLT, ↓z_ops_plain, ↓z_alloc, ↓y_zr24, ↓z_new, ↓z_nm_cons, ↓z_nmC_cons, ↓z_mn'_int, ↓z_nmC_nil, and_self, ↓z_nm_nil, Nat.zero_add, ↓z_pg_cons, ↓z_mn_agg, ↓z_mn_sl, ↓z_mn_ptr, reduceCtorEq, ↓reduceIte, ↓z_pg_nil, ↓z_store, ↓evW_tmp, ↓lkW_cons, Nat.reduceEqDiff, ↓y_sz24, ↓z_cl_agg, List.length_map, ls, ↓z_store_ptr, ↓lkoW_cons, List.length_cons, List.length_nil, Nat.reduceAdd, Nat.reduceLeDiff, ↓spsW_cons, ↓drW_cons, Nat.reduceSub, ↓drW_nil, ↓z_cat_nil_r, ↓z_so_cons, ↓z_put_none, ↓z_ops_nil, ↓z_seq_nrm, ↓z_seq, ↓z_region, ↓z_build, ↓y_ty41, ↓z_blTy_arr, ↓y_zr41, ↓y_sz5, ↓z_bld_nil, ↓z_nmC_bytes, ↓z_mn_oag, ↓z_mnL_int, ↓z_mnL_nil, ↓y_sz41, ↓z_cl_oag, ↓z_assign, ↓evW_const, ↓constW_int, inR_i64, Int.reduceNeg, Int.reduceLE, ↓z_block, ↓z_loop, true_and])
  refine hold_intro ⟨[], Nat, fun i => ⟨19, 3, [(5, .int .i64 i), (4, .ptr 2 0), (3, .ptr 1 0), (2, .ptr 0 0)], [(2, (cpK h i).map bD), (1, h.map bD), (0, (List.replicate 16 (0 : UInt8)).map bD)]⟩, fun i => i ≤ 16, fun i => 16 - i, ?_, ?_⟩
  · (simp -dsimp only [↓z_ad_nil, ↓z_wk, ↓z_wkE_cons, ↓lkW_cons, ↓reduceIte, D.int.injEq, true_and, Nat.reduceEqDiff, Nat.zero_add, Nat.reduceAdd, ↓z_wkE_nil, and_self, and_true, ↓z_wkO_cons, ↓lkoW_cons, reduceCtorEq, ↓z_wkO_nil]); (try simp only [Int.toNat_natCast, Nat.mul_one, Bool.or_false, Bool.false_or, Bool.or_self, Bool.or_true])
    exact ⟨0, by omega, rfl, by simp [cpK]; rfl, rfl⟩
  rintro i hi
  have lc := cpK_len (h := h) (i := i) (by omega) hi
  by_cases h16 : i < 16
  · (simp -dsimp only [↓z_seq, ↓z_region, ↓z_ops_plain, ↓z_move, ↓evW_tmp, ↓lkW_cons, ↓reduceIte, ↓z_put, Nat.reduceLT, ↓z_binOp, ↓evW_const, ↓constW_int, inR_i64, Int.reduceNeg, Int.reduceLE, and_self, ↓z_bn_lss, ↓z_ops_nil, ↓z_seq_nrm, ↓z_cond, ↓z_cnd, ↓z_gdt, ↓z_skip, ↓z_block, Nat.reduceEqDiff, ↓z_indexAddr, ↓y_ty24, ↓z_elTy_arr, ↓y_sz5, ↓z_ix_ptr, ↓z_load, ↓y_ty5, ↓z_agTy_int, ↓loadW_ptr, ↓lkoW_cons, ↓z_rd_f, ↓z_nth_bytes, ↓y_ty41, ↓z_store, ↓z_cl_int, Nat.mul_one, Nat.zero_add, List.length_cons, List.length_nil, ↓z_store_ptr, List.length_map, lc, Nat.reduceLeDiff, ↓z_sps_byte, ↓z_so_cons, ↓z_put_none, ↓z_blk_nrm, ↓z_bn_add, ↓wrW_i64, ↓z_assign, ↓z_lp_nrm, ↓z_wk, ↓z_wkE_cons, D.int.injEq, true_and, ↓z_wkE_nil, and_true, ↓z_wkO_cons, reduceCtorEq, ↓z_wkO_nil, ls, ↓z_exit, ↓z_seq_ext, ↓z_lp_ext, ↓z_blk_ext, ↓y_sz41, ↓z_agTy_arr, ↓z_rd_t, ↓z_sub_map, ↓z_cl_oag, List.length_take, List.length_drop, Nat.reduceSub, ↓z_sps_map, ↓z_ret, ↓z_end_rt, resLW, res1W, ↓z_coeL_cons, ↓z_coeL_nil, ↓z_pack1, List.length_append, ↓z_coe_oag, ↓z_coeC_bytes, D.agg.injEq, z_ite]); (try simp only [Int.toNat_natCast])
    refine ⟨fun _ => ⟨by omega, by omega, by omega, by omega, by omega, by omega, by omega, i + 1, by omega, by omega, by omega, ?_⟩, fun hh => absurd hh (by omega)⟩
    rw [← cpK_s (by omega) h16, List.map_append, List.map_append, List.map_take, List.map_drop]
  · have : i = 16 := by omega
    subst this
    (simp -dsimp only [↓z_seq, ↓z_region, ↓z_ops_plain, ↓z_move, ↓evW_tmp, ↓lkW_cons, ↓reduceIte, ↓z_put, Nat.reduceLT, ↓z_binOp, ↓evW_const, ↓constW_int, inR_i64, Int.reduceNeg, Int.reduceLE, and_self, ↓z_bn_lss, ↓z_ops_nil, ↓z_seq_nrm, ↓z_cond, ↓z_cnd, ↓z_gdt, ↓z_skip, ↓z_block, Nat.reduceEqDiff, ↓z_indexAddr, ↓y_ty24, ↓z_elTy_arr, ↓y_sz5, ↓z_ix_ptr, ↓z_load, ↓y_ty5, ↓z_agTy_int, ↓loadW_ptr, ↓lkoW_cons, ↓z_rd_f, ↓z_nth_bytes, ↓y_ty41, ↓z_store, ↓z_cl_int, Nat.mul_one, Nat.zero_add, List.length_cons, List.length_nil, ↓z_store_ptr, List.length_map, lc, Nat.reduceLeDiff, ↓z_sps_byte, ↓z_so_cons, ↓z_put_none, ↓z_blk_nrm, ↓z_bn_add, ↓wrW_i64, ↓z_assign, ↓z_lp_nrm, Nat.reduceSub, ↓z_wk, ↓z_wkE_cons, D.int.injEq, true_and, ↓z_wkE_nil, and_true, ↓z_wkO_cons, reduceCtorEq, ↓z_wkO_nil, ↓z_exit, ↓z_seq_ext, ↓z_lp_ext, ↓z_blk_ext, ↓y_sz41, ↓z_agTy_arr, ↓z_rd_t, ↓z_sub_map, ↓z_cl_oag, List.drop_zero, List.length_take, ↓z_sps_map, ↓z_ret, ↓z_end_rt, resLW, res1W, List.take_zero, List.nil_append, ↓z_coeL_cons, ↓z_coeL_nil, ↓z_pack1, List.length_append, List.length_drop, ↓z_coe_oag, ↓z_coeC_bytes, D.agg.injEq, z_ite]); (try simp only [Int.toNat_natCast])
    refine ⟨fun hh => absurd hh (by decide), fun _ => ⟨by decide, by decide, by decide, ?_⟩⟩
    have tk : List.take 16 (cpK h 16) = cpK h 16 := List.take_of_length_le (by omega)
    rw [tk, show List.drop 16 (List.replicate 16 (0 : UInt8)) = [] from rfl, List.append_nil, tk, cpK_end]
end Go.Abs

