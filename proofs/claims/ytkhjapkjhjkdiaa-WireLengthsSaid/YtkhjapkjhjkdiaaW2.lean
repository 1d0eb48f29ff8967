/-
  WIRE, second walks: byte strings; lists of integers.
-/
import Derived.Test.YtkhjapkjhjkdiaaW1
namespace Go.Abs
open Go.Proofs

def encB (s : List UInt8) : List UInt8 := encI s.length ++ s
theorem encB_len {s : List UInt8} (h : s.length ≤ 1000000) : (encB s).length ≤ s.length + 10 := by
  have := encI_len (v := s.length) (by omega) (by omega)
  simp only [encB, List.length_append]; omega

set_option maxHeartbeats 4000000 in
theorem fn_Bytes (G : Glob) (s : List UInt8) (hs : s.length ≤ 1000000) : FnS G Try.prog 16 [.str s] 1 (encB s).length ((encB s).map bD) := by
  refine FnS.mk (c := _) Try.func16 rfl rfl Try.ntmps16 Try.results16 ?_
  (simp -dsimp only [bodyW, List.length_cons, List.length_nil, Nat.zero_add, Nat.reduceLeDiff, wfL, ↓z_seq, ↓z_region, ↓z_ops_plain, ↓z_assign, ↓evW_const, ↓constW_nils, ↓z_put, Nat.reduceLT, ↓z_ops_nil, ↓z_seq_nrm, ↓z_move, ↓evW_tmp, ↓lkW_cons, reduceCtorEq, ↓reduceIte, ↓z_lk_env, ↓z_callb, ↓z_evL_cons, ↓z_evL_nil, ↓z_len, ↓y_ty9, ↓z_ln_str, ↓z_callv, ↓evW_func, ↓z_fun0, ↓z_coeL_cons, ↓z_coe_int, ↓z_coeL_nil, true_and])
  intro hv
  refine call_own (fn_Int G s.length) fun _ => ?_
  have hl := encI_len (v := s.length) (by omega) (by omega)
  (simp -dsimp only [↓z_new, ↓z_nm_nil, ↓z_pg_cons, ↓z_mn_int, ↓z_mn_str, ↓z_mn_nils, ↓z_pg_env, ↓z_pg_env0, ↓z_put, Nat.reduceLT, ↓z_ops_plain, ↓z_move, ↓evW_tmp, ↓lkW_cons, reduceCtorEq, ↓reduceIte, ↓z_callb, ↓z_evL_cons, Nat.reduceEqDiff, ↓z_evL_nil, ↓z_append, ↓y_ty28, ↓z_slTy, ↓y_ty9, ↓z_nint_str, ↓y_sz5, ↓y_by5, ↓y_zr5, List.length_cons, List.length_nil, Nat.zero_add, ↓z_src_str, ↓z_app_osl, ↓lkoW_cons, List.length_map, Nat.mul_one, ↓z_room, maxLen_lit, ↓z_nm_cons, ↓z_nmC_bytes, ↓z_mn_osl, ↓z_pg_nil, ↓z_so_cons, ↓z_assign, ↓z_ops_nil, ↓z_seq_nrm, ↓z_ret, ↓z_end_rt, resLW, res1W, ↓z_own_osl, ↓z_allP_app, ↓z_allP_bytes, and_self, List.length_append, true_and]); (try simp only [Int.toNat_natCast, Nat.mul_one, Bool.or_false, Bool.false_or, Bool.or_self, Bool.or_true])
  refine ⟨by omega, by omega, by simp [encB], by simp [encB]⟩

set_option maxHeartbeats 4000000 in
theorem fn_refBytes (G : Glob) (s : List UInt8) (hs : s.length ≤ 1000000) : FnS G Try.prog 17 [.str s] 1 (encB s).length ((encB s).map bD) := by
  refine FnS.mk (c := _) Try.func17 rfl rfl Try.ntmps17 Try.results17 ?_
  (simp -dsimp only [bodyW, List.length_cons, List.length_nil, Nat.zero_add, Nat.reduceLeDiff, wfL, ↓z_seq, ↓z_region, ↓z_ops_plain, ↓z_assign, ↓evW_const, ↓constW_nils, ↓z_put, Nat.reduceLT, ↓z_ops_nil, ↓z_seq_nrm, ↓z_move, ↓evW_tmp, ↓lkW_cons, reduceCtorEq, ↓reduceIte, ↓z_lk_env, ↓z_callb, ↓z_evL_cons, ↓z_evL_nil, ↓z_len, ↓y_ty9, ↓z_ln_str, ↓z_callv, ↓evW_func, ↓z_fun0, ↓z_coeL_cons, ↓z_coe_int, ↓z_coeL_nil, true_and])
  intro hv
  refine call_own (fn_refInt G s.length) fun _ => ?_
  have hl := encI_len (v := s.length) (by omega) (by omega)
  (simp -dsimp only [↓z_new, ↓z_nm_nil, ↓z_pg_cons, ↓z_mn_int, ↓z_mn_str, ↓z_mn_nils, ↓z_pg_env, ↓z_pg_env0, ↓z_put, Nat.reduceLT, ↓z_ops_plain, ↓z_move, ↓evW_tmp, ↓lkW_cons, reduceCtorEq, ↓reduceIte, ↓z_callb, ↓z_evL_cons, Nat.reduceEqDiff, ↓z_evL_nil, ↓z_append, ↓y_ty28, ↓z_slTy, ↓y_ty9, ↓z_nint_str, ↓y_sz5, ↓y_by5, ↓y_zr5, List.length_cons, List.length_nil, Nat.zero_add, ↓z_src_str, ↓z_app_osl, ↓lkoW_cons, List.length_map, Nat.mul_one, ↓z_room, maxLen_lit, ↓z_nm_cons, ↓z_nmC_bytes, ↓z_mn_osl, ↓z_pg_nil, ↓z_so_cons, ↓z_assign, ↓z_ops_nil, ↓z_seq_nrm, ↓z_ret, ↓z_end_rt, resLW, res1W, ↓z_own_osl, ↓z_allP_app, ↓z_allP_bytes, and_self, List.length_append, true_and]); (try simp only [Int.toNat_natCast, Nat.mul_one, Bool.or_false, Bool.false_or, Bool.or_self, Bool.or_true])
  refine ⟨by omega, by omega, by simp [encB], by simp [encB]⟩

/-- A list's encoding, from its elements' encodings. -/
def encL {α : Type} (e : α → List UInt8) (l : List α) : List UInt8 := encI l.length ++ l.flatMap e
theorem flatMap_take_succ {α β : Type} (e : α → List β) (l : List α) (i : Nat) (h : i < l.length) : (l.take (i + 1)).flatMap e = (l.take i).flatMap e ++ e l[i] := by
  have e1 : l.take (i + 1) = l.take i ++ [l[i]] := by simp
  rw [e1, List.flatMap_append, List.flatMap_cons, List.flatMap_nil, List.append_nil]
theorem flatMap_len {α β : Type} (e : α → List β) (m : Nat) : ∀ (l : List α), (∀ x ∈ l, (e x).length ≤ m) → (l.flatMap e).length ≤ l.length * m
  | [], _ => by simp
  | x :: r, h => by
    have h1 := h x (by simp)
    have h2 := flatMap_len e m r fun y hy => h y (by simp [hy])
    simp only [List.flatMap_cons, List.length_append, List.length_cons, Nat.add_mul, Nat.one_mul]; omega

set_option maxHeartbeats 4000000 in
theorem fn_listInt (G : Glob) (l : List Int) (f : FuncId) (e : Int → List UInt8) (hf : ∀ x, FnS G Try.prog f [.int .i64 x] 1 (e x).length ((e x).map bD)) (hl : l.length ≤ 100000) (he : ∀ x ∈ l, (e x).length ≤ 10000) :
    FnS G Try.prog 38 [.sl 1 l.length (l.map (D.int .i64)), .fn f []] 1 (encL e l).length ((encL e l).map bD) := by
  refine FnS.mk (c := _) Try.func38 rfl rfl Try.ntmps38 Try.results38 ?_
  (simp -dsimp only [bodyW, List.length_cons, List.length_nil, Nat.zero_add, Nat.reduceAdd, Nat.reduceLeDiff, wfL, ↓z_seq, ↓z_region, ↓z_ops_plain, ↓z_assign, ↓evW_const, ↓constW_nils, ↓z_put, Nat.reduceLT, ↓z_ops_nil, ↓z_seq_nrm, ↓z_move, ↓evW_tmp, ↓lkW_cons, reduceCtorEq, ↓reduceIte, ↓z_lk_env, ↓z_callb, ↓z_evL_cons, ↓z_evL_nil, ↓z_len, ↓y_ty22, ↓z_ln_sl, ↓z_callv, ↓evW_func, ↓z_fun0, ↓z_coeL_cons, ↓z_coe_int, ↓z_coeL_nil, true_and])
  intro _ _
  refine call_own (fn_Int G l.length) fun _ => ?_
  have h10 := encI_len (v := l.length) (by omega) (by omega)
  (simp -dsimp only [↓z_new, ↓z_nm_nil, ↓z_pg_cons, ↓z_mn_int, ↓z_mn_sl, ↓z_mn_nils, ↓z_pg_env, ↓z_mn_fn, ↓z_pg_env0, ↓z_put, Nat.reduceLT, ↓z_ops_plain, ↓z_assign, ↓evW_tmp, ↓lkW_cons, ↓reduceIte, ↓z_ops_nil, ↓z_seq_nrm, ↓z_seq, ↓z_region, ↓z_move, reduceCtorEq, ↓z_callb, ↓z_evL_cons, ↓z_evL_nil, ↓z_len, ↓y_ty22, ↓z_ln_sl, ↓evW_const, ↓constW_int, inR_i64, Int.reduceNeg, Int.reduceLE, and_self, ↓z_block, ↓z_loop, true_and])
  refine hold_intro ⟨[], Nat, fun i => ⟨24, 1, [(13, .int .i64 i), (12, .int .i64 l.length), (11, .sl 1 l.length (l.map (D.int .i64))), (1, .fn f []), (5, .osl 0 1 (encI l.length ++ (l.take i).flatMap e).length)], [(0, (encI l.length ++ (l.take i).flatMap e).map bD)]⟩,
    fun i => i ≤ l.length, fun i => l.length - i, ?_, ?_⟩
  · (simp -dsimp only [↓z_ad_nil, ↓z_wk, ↓z_wkE_cons, ↓lkW_cons, ↓reduceIte, D.int.injEq, true_and, Nat.reduceEqDiff, reduceCtorEq, Nat.zero_add, List.length_append, D.osl.injEq, ↓z_wkE_nil, and_true, ↓z_wkO_cons, ↓lkoW_cons, ↓z_wkO_nil]); (try simp only [Int.toNat_natCast, Nat.mul_one, Bool.or_false, Bool.false_or, Bool.or_self, Bool.or_true])
    exact ⟨0, by omega, by simp⟩
  · intro i hi
    (simp -dsimp only [↓z_seq, ↓z_region, ↓z_ops_plain, ↓z_binOp, ↓evW_tmp, ↓lkW_cons, ↓reduceIte, Nat.reduceEqDiff, ↓z_bn_lss, ↓z_put, Nat.reduceLT, ↓z_ops_nil, ↓z_seq_nrm, ↓z_cond, ↓z_cnd, ↓z_gdt, ↓z_skip, ↓z_block, ↓z_indexAddr, ↓y_ty22, ↓z_elTy_sl, ↓y_sz3, ↓z_ix_sl, ↓z_load, ↓y_ty3, ↓z_agTy_int, ↓loadW_rop, ↓z_rd_f, ↓z_nth_int, ↓z_assign, ↓z_move, ↓z_callv, ↓z_evL_cons, ↓z_evL_nil, ↓z_fun0, ↓z_coeL_cons, ↓z_coe_int, ↓z_coeL_nil, true_and, Nat.mul_one, ↓z_exit, ↓z_seq_ext, ↓z_lp_ext, ↓z_blk_ext, ↓z_ret, ↓z_end_rt, resLW, res1W, List.length_append, ↓z_own_osl, ↓lkoW_cons, ↓z_allP_bytes, List.length_map, z_ite]); (try simp only [Int.toNat_natCast])
    have hlen : (encI l.length ++ (l.take i).flatMap e).length ≤ 10 + l.length * 10000 := by
      have := flatMap_len e 10000 (l.take i) fun x hx => he x (List.mem_of_mem_take hx)
      have h2 : (l.take i).length * 10000 ≤ l.length * 10000 := Nat.mul_le_mul_right _ (by rw [List.length_take]; omega)
      simp only [List.length_append]; omega
    refine ⟨fun hlt => ⟨by omega, by omega, by omega, call_own (hf _) fun _ => ?_⟩, fun hge => ?_⟩
    · have hx := he l[i] (List.getElem_mem (by omega))
      (simp -dsimp only [↓z_new, ↓z_nm_cons, ↓z_nmC_bytes, ↓z_nm_nil, ↓z_pg_cons, ↓z_mn_int, ↓z_mn_fn, ↓z_mn_osl, reduceCtorEq, ↓reduceIte, ↓z_mn_rop, ↓z_mn_bool, ↓z_mn_sl, ↓z_pg_nil, ↓z_put, Nat.reduceLT, ↓z_ops_plain, ↓z_callb, ↓z_evL_cons, ↓evW_tmp, ↓lkW_cons, Nat.reduceEqDiff, ↓z_evL_nil, ↓z_append, ↓y_ty28, ↓z_slTy, ↓z_nint_sl, ↓y_sz5, ↓y_by5, ↓y_zr5, List.length_cons, List.length_nil, Nat.zero_add, ↓z_src_osl, ↓lkoW_cons, ↓z_allP_bytes, Nat.mul_one, List.length_map, ↓z_app_osl, List.length_append, ↓z_room, maxLen_lit, ↓z_so_cons, ↓z_assign, ↓z_ops_nil, ↓z_blk_nrm, ↓z_seq_nrm, ↓z_region, ↓z_binOp, ↓evW_const, ↓constW_int, inR_i64, Int.reduceNeg, Int.reduceLE, and_self, ↓z_bn_add, ↓wrW_i64, ↓z_move, ↓z_lp_nrm, ↓z_wk, ↓z_wkE_cons, D.int.injEq, true_and, D.osl.injEq, ↓z_wkE_nil, and_true, ↓z_wkO_cons, ↓z_wkO_nil]); (try simp only [Int.toNat_natCast, Nat.mul_one, Bool.or_false, Bool.false_or, Bool.or_self, Bool.or_true])
      simp only [List.length_append] at hlen
      refine ⟨by omega, by omega, by omega, i + 1, by omega, by omega, ⟨by omega, ?_⟩, ?_⟩
      · rw [flatMap_take_succ e l i (by omega)]; simp [Nat.add_assoc]
      · rw [flatMap_take_succ e l i (by omega)]; simp
    · have : i = l.length := by omega
      subst this
      simp [encL]
end Go.Abs

