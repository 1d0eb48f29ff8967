/-
  WIRE, third walks: lists of integers and of byte strings.
-/
import Derived.Test.YtkhjapkjhjkdiaaW2
namespace Go.Abs
open Go.Proofs

theorem wf_ints {sz n : Nat} {kk : IntKind} {l : List Int} (h : wf3 (.sl sz n (l.map (D.int kk)))) : ∀ x ∈ l, inR kk x := fun x hx => (h.2 (.int kk x) (List.mem_map.2 ⟨x, hx, rfl⟩)).1
theorem wf_strs {sz n : Nat} {l : List (List UInt8)} (h : wf3 (.sl sz n (l.map D.str))) : ∀ x ∈ l, x.length ≤ maxLen := fun x hx => (h.2 (.str x) (List.mem_map.2 ⟨x, hx, rfl⟩)).1
theorem wf_slen {n : Nat} {cs : List D} (h : wf3 (.sl 1 n cs)) : cs.length = n := by have := h.1.2; simpa using this

set_option maxHeartbeats 4000000 in
theorem fn_listStr (G : Glob) (l : List (List UInt8)) (f : FuncId) (e : List UInt8 → List UInt8) (hf : ∀ x ∈ l, FnS G Try.prog f [.str x] 1 (e x).length ((e x).map bD)) (hl : l.length ≤ 100000) (he : ∀ x ∈ l, (e x).length ≤ 10000) :
    FnS G Try.prog 39 [.sl 1 l.length (l.map (D.str)), .fn f []] 1 (encL e l).length ((encL e l).map bD) := by
  refine FnS.mk (c := _) Try.func39 rfl rfl Try.ntmps39 Try.results39 ?_
  (simp -dsimp only [bodyW, List.length_cons, List.length_nil, Nat.zero_add, Nat.reduceAdd, Nat.reduceLeDiff, wfL, ↓z_seq, ↓z_region, ↓z_ops_plain, ↓z_assign, ↓evW_const, ↓constW_nils, ↓z_put, Nat.reduceLT, ↓z_ops_nil, ↓z_seq_nrm, ↓z_move, ↓evW_tmp, ↓lkW_cons, reduceCtorEq, ↓reduceIte, ↓z_lk_env, ↓z_callb, ↓z_evL_cons, ↓z_evL_nil, ↓z_len, ↓y_ty23, ↓z_ln_sl, ↓z_callv, ↓evW_func, ↓z_fun0, ↓z_coeL_cons, ↓z_coe_int, ↓z_coeL_nil, true_and])
  intro _ _
  refine call_own (fn_Int G l.length) fun _ => ?_
  have h10 := encI_len (v := l.length) (by omega) (by omega)
  (simp -dsimp only [↓z_new, ↓z_nm_nil, ↓z_pg_cons, ↓z_mn_int, ↓z_mn_sl, ↓z_mn_nils, ↓z_pg_env, ↓z_mn_fn, ↓z_pg_env0, ↓z_put, Nat.reduceLT, ↓z_ops_plain, ↓z_assign, ↓evW_tmp, ↓lkW_cons, ↓reduceIte, ↓z_ops_nil, ↓z_seq_nrm, ↓z_seq, ↓z_region, ↓z_move, reduceCtorEq, ↓z_callb, ↓z_evL_cons, ↓z_evL_nil, ↓z_len, ↓y_ty23, ↓z_ln_sl, ↓evW_const, ↓constW_int, inR_i64, Int.reduceNeg, Int.reduceLE, and_self, ↓z_block, ↓z_loop, true_and])
  refine hold_intro ⟨[], Nat, fun i => ⟨24, 1, [(13, .int .i64 i), (12, .int .i64 l.length), (11, .sl 1 l.length (l.map (D.str))), (1, .fn f []), (5, .osl 0 1 (encI l.length ++ (l.take i).flatMap e).length)], [(0, (encI l.length ++ (l.take i).flatMap e).map bD)]⟩,
    fun i => i ≤ l.length, fun i => l.length - i, ?_, ?_⟩
  · (simp -dsimp only [↓z_ad_nil, ↓z_wk, ↓z_wkE_cons, ↓lkW_cons, ↓reduceIte, D.int.injEq, true_and, Nat.reduceEqDiff, reduceCtorEq, Nat.zero_add, List.length_append, D.osl.injEq, ↓z_wkE_nil, and_true, ↓z_wkO_cons, ↓lkoW_cons, ↓z_wkO_nil]); (try simp only [Int.toNat_natCast, Nat.mul_one, Bool.or_false, Bool.false_or, Bool.or_self, Bool.or_true])
    exact ⟨0, by omega, by simp⟩
  · intro i hi
    (simp -dsimp only [↓z_seq, ↓z_region, ↓z_ops_plain, ↓z_binOp, ↓evW_tmp, ↓lkW_cons, ↓reduceIte, Nat.reduceEqDiff, ↓z_bn_lss, ↓z_put, Nat.reduceLT, ↓z_ops_nil, ↓z_seq_nrm, ↓z_cond, ↓z_cnd, ↓z_gdt, ↓z_skip, ↓z_block, ↓z_indexAddr, ↓y_ty23, ↓z_elTy_sl, ↓y_sz9, ↓z_ix_sl, ↓z_load, ↓y_ty9, ↓z_agTy_str, ↓loadW_rop, ↓z_rd_f, ↓z_nth_str, ↓z_assign, ↓z_move, ↓z_callv, ↓z_evL_cons, ↓z_evL_nil, ↓z_fun0, ↓z_coeL_cons, ↓z_coe_str, ↓z_coeL_nil, true_and, Nat.mul_one, ↓z_exit, ↓z_seq_ext, ↓z_lp_ext, ↓z_blk_ext, ↓z_ret, ↓z_end_rt, resLW, res1W, List.length_append, ↓z_own_osl, ↓lkoW_cons, ↓z_allP_bytes, List.length_map, z_ite]); (try simp only [Int.toNat_natCast])
    have hlen : (encI l.length ++ (l.take i).flatMap e).length ≤ 10 + l.length * 10000 := by
      have := flatMap_len e 10000 (l.take i) fun x hx => he x (List.mem_of_mem_take hx)
      have h2 : (l.take i).length * 10000 ≤ l.length * 10000 := Nat.mul_le_mul_right _ (by rw [List.length_take]; omega)
      simp only [List.length_append]; omega
    refine ⟨fun hlt => ⟨by omega, by omega, by omega, call_own (hf _ (List.getElem_mem (by omega))) fun _ => ?_⟩, fun hge => ?_⟩
    · have hx := he l[i] (List.getElem_mem (by omega))
      (simp -dsimp only [↓z_new, ↓z_nm_cons, ↓z_nmC_bytes, ↓z_nm_nil, ↓z_pg_cons, ↓z_mn_str, ↓z_mn_fn, ↓z_mn_osl, reduceCtorEq, ↓reduceIte, ↓z_mn_rop, ↓z_mn_bool, ↓z_mn_int, ↓z_mn_sl, ↓z_pg_nil, ↓z_put, Nat.reduceLT, ↓z_ops_plain, ↓z_callb, ↓z_evL_cons, ↓evW_tmp, ↓lkW_cons, Nat.reduceEqDiff, ↓z_evL_nil, ↓z_append, ↓y_ty28, ↓z_slTy, ↓z_nint_sl, ↓y_sz5, ↓y_by5, ↓y_zr5, List.length_cons, List.length_nil, Nat.zero_add, ↓z_src_osl, ↓lkoW_cons, ↓z_allP_bytes, Nat.mul_one, List.length_map, ↓z_app_osl, List.length_append, ↓z_room, maxLen_lit, ↓z_so_cons, ↓z_assign, ↓z_ops_nil, ↓z_blk_nrm, ↓z_seq_nrm, ↓z_region, ↓z_binOp, ↓evW_const, ↓constW_int, inR_i64, Int.reduceNeg, Int.reduceLE, and_self, ↓z_bn_add, ↓wrW_i64, ↓z_move, ↓z_lp_nrm, ↓z_wk, ↓z_wkE_cons, D.int.injEq, true_and, D.osl.injEq, ↓z_wkE_nil, and_true, ↓z_wkO_cons, ↓z_wkO_nil]); (try simp only [Int.toNat_natCast, Nat.mul_one, Bool.or_false, Bool.false_or, Bool.or_self, Bool.or_true])
      simp only [List.length_append] at hlen
      refine ⟨by omega, by omega, by omega, i + 1, by omega, by omega, ⟨by omega, ?_⟩, ?_⟩
      · rw [flatMap_take_succ e l i (by omega)]; simp [Nat.add_assoc]
      · rw [flatMap_take_succ e l i (by omega)]; simp
    · have : i = l.length := by omega
      subst this
      simp [encL]
set_option maxHeartbeats 4000000 in
theorem fn_refInts (G : Glob) (l : List Int) (hl : l.length ≤ 100000) (hb : ∀ x ∈ l, (encI x).length ≤ 10000) : FnS G Try.prog 19 [.sl 1 l.length (l.map (D.int .i64))] 1 (encL encI l).length ((encL encI l).map bD) := by
  refine FnS.mk (c := _) Try.func19 rfl rfl Try.ntmps19 Try.results19 ?_
  (simp -dsimp only [bodyW, List.length_cons, List.length_nil, Nat.zero_add, Nat.reduceLeDiff, wfL, ↓z_seq, ↓z_region, ↓z_ops_plain, ↓z_assign, ↓evW_const, ↓constW_nils, ↓z_put, Nat.reduceLT, ↓z_ops_nil, ↓z_seq_nrm, ↓z_move, ↓evW_tmp, ↓lkW_cons, reduceCtorEq, ↓reduceIte, ↓z_lk_env, ↓z_callb, ↓z_evL_cons, ↓z_evL_nil, ↓z_len, ↓y_ty22, ↓z_ln_sl, ↓z_callv, ↓evW_func, ↓z_fun0, ↓z_coeL_cons, ↓z_coe_int, ↓z_coeL_nil, true_and])
  intro _
  refine call_own (fn_refInt G l.length) fun _ => ?_
  have h10 := encI_len (v := l.length) (by omega) (by omega)
  (simp -dsimp only [↓z_new, ↓z_nm_nil, ↓z_pg_cons, ↓z_mn_int, ↓z_mn_sl, ↓z_mn_nils, ↓z_pg_env, ↓z_pg_env0, ↓z_put, Nat.reduceLT, ↓z_ops_plain, ↓z_assign, ↓evW_tmp, ↓lkW_cons, ↓reduceIte, ↓z_ops_nil, ↓z_seq_nrm, ↓z_seq, ↓z_region, ↓evW_const, ↓constW_int, inR_i64, Int.reduceNeg, Int.reduceLE, and_self, ↓z_block, ↓z_loop, true_and])
  refine hold_intro ⟨[], Nat, fun i => ⟨22, 1, [(4, .int .i64 i), (0, .sl 1 l.length (l.map (D.int .i64))), (3, .osl 0 1 (encI l.length ++ (l.take i).flatMap encI).length)], [(0, (encI l.length ++ (l.take i).flatMap encI).map bD)]⟩,
    fun i => i ≤ l.length, fun i => l.length - i, ?_, ?_⟩
  · (simp -dsimp only [↓z_ad_nil, ↓z_wk, ↓z_wkE_cons, ↓lkW_cons, ↓reduceIte, D.int.injEq, true_and, reduceCtorEq, Nat.reduceEqDiff, List.length_append, D.osl.injEq, ↓z_wkE_nil, and_true, ↓z_wkO_cons, ↓lkoW_cons, ↓z_wkO_nil]); (try simp only [Int.toNat_natCast, Nat.mul_one, Bool.or_false, Bool.false_or, Bool.or_self, Bool.or_true])
    exact ⟨0, by omega, by simp⟩
  · intro i hi
    (simp -dsimp only [↓z_seq, ↓z_region, ↓z_ops_plain, ↓z_move, ↓evW_tmp, ↓lkW_cons, ↓reduceIte, ↓z_put, Nat.reduceLT, reduceCtorEq, ↓z_callb, ↓z_evL_cons, ↓z_evL_nil, ↓z_len, ↓y_ty22, ↓z_ln_sl, ↓z_binOp, Nat.reduceEqDiff, ↓z_bn_lss, ↓z_ops_nil, ↓z_seq_nrm, ↓z_cond, ↓z_cnd, ↓z_gdt, ↓z_skip, ↓z_block, ↓z_indexAddr, ↓z_elTy_sl, ↓y_sz3, ↓z_ix_sl, ↓z_load, ↓y_ty3, ↓z_agTy_int, ↓loadW_rop, ↓z_rd_f, ↓z_nth_int, ↓z_callv, ↓evW_func, ↓z_fun0, ↓z_coeL_cons, ↓z_coe_int, ↓z_coeL_nil, true_and, Nat.mul_one, ↓z_exit, ↓z_seq_ext, ↓z_lp_ext, ↓z_blk_ext, ↓z_assign, ↓z_ret, ↓z_end_rt, resLW, res1W, List.length_append, ↓z_own_osl, ↓lkoW_cons, ↓z_allP_bytes, List.length_map, z_ite]); (try simp only [Int.toNat_natCast])
    have hlen : (encI l.length ++ (l.take i).flatMap encI).length ≤ 10 + l.length * 10000 := by
      have := flatMap_len encI 10000 (l.take i) fun x hx => hb x (List.mem_of_mem_take hx)
      have h2 : (l.take i).length * 10000 ≤ l.length * 10000 := Nat.mul_le_mul_right _ (by rw [List.length_take]; omega)
      simp only [List.length_append]; omega
    refine ⟨fun hlt => ⟨by omega, by omega, by omega, call_own (fn_refInt G _) fun _ => ?_⟩, fun hge => ?_⟩
    · have hx := hb l[i] (List.getElem_mem (by omega))
      (simp -dsimp only [↓z_new, ↓z_nm_cons, ↓z_nmC_bytes, ↓z_nm_nil, ↓z_pg_cons, ↓z_mn_int, ↓z_mn_rop, ↓z_mn_sl, ↓z_mn_osl, reduceCtorEq, ↓reduceIte, ↓z_mn_bool, ↓z_pg_nil, ↓z_put, Nat.reduceLT, ↓z_ops_plain, ↓z_callb, ↓z_evL_cons, ↓evW_tmp, ↓lkW_cons, Nat.reduceEqDiff, ↓z_evL_nil, ↓z_append, ↓y_ty28, ↓z_slTy, ↓z_nint_sl, ↓y_sz5, ↓y_by5, ↓y_zr5, List.length_cons, List.length_nil, Nat.zero_add, ↓z_src_osl, ↓lkoW_cons, ↓z_allP_bytes, Nat.mul_one, List.length_map, ↓z_app_osl, List.length_append, ↓z_room, maxLen_lit, ↓z_so_cons, ↓z_assign, ↓z_ops_nil, ↓z_blk_nrm, ↓z_seq_nrm, ↓z_region, ↓z_move, ↓z_binOp, ↓evW_const, ↓constW_int, inR_i64, Int.reduceNeg, Int.reduceLE, and_self, ↓z_bn_add, ↓wrW_i64, ↓z_lp_nrm, ↓z_wk, ↓z_wkE_cons, D.int.injEq, true_and, D.osl.injEq, ↓z_wkE_nil, and_true, ↓z_wkO_cons, ↓z_wkO_nil]); (try simp only [Int.toNat_natCast, Nat.mul_one, Bool.or_false, Bool.false_or, Bool.or_self, Bool.or_true])
      simp only [List.length_append] at hlen
      refine ⟨by omega, by omega, by omega, i + 1, by omega, by omega, ⟨by omega, ?_⟩, ?_⟩
      · rw [flatMap_take_succ encI l i (by omega)]; simp [Nat.add_assoc]
      · rw [flatMap_take_succ encI l i (by omega)]; simp
    · have : i = l.length := by omega
      subst this
      simp [encL]

set_option maxHeartbeats 4000000 in
theorem fn_refStrings (G : Glob) (l : List (List UInt8)) (hl : l.length ≤ 100000) (hb : ∀ x ∈ l, (encB x).length ≤ 10000) (hs : ∀ x ∈ l, x.length ≤ 1000000) : FnS G Try.prog 21 [.sl 1 l.length (l.map (D.str))] 1 (encL encB l).length ((encL encB l).map bD) := by
  refine FnS.mk (c := _) Try.func21 rfl rfl Try.ntmps21 Try.results21 ?_
  (simp -dsimp only [bodyW, List.length_cons, List.length_nil, Nat.zero_add, Nat.reduceLeDiff, wfL, ↓z_seq, ↓z_region, ↓z_ops_plain, ↓z_assign, ↓evW_const, ↓constW_nils, ↓z_put, Nat.reduceLT, ↓z_ops_nil, ↓z_seq_nrm, ↓z_move, ↓evW_tmp, ↓lkW_cons, reduceCtorEq, ↓reduceIte, ↓z_lk_env, ↓z_callb, ↓z_evL_cons, ↓z_evL_nil, ↓z_len, ↓y_ty23, ↓z_ln_sl, ↓z_callv, ↓evW_func, ↓z_fun0, ↓z_coeL_cons, ↓z_coe_int, ↓z_coeL_nil, true_and])
  intro _
  refine call_own (fn_refInt G l.length) fun _ => ?_
  have h10 := encI_len (v := l.length) (by omega) (by omega)
  (simp -dsimp only [↓z_new, ↓z_nm_nil, ↓z_pg_cons, ↓z_mn_int, ↓z_mn_sl, ↓z_mn_nils, ↓z_pg_env, ↓z_pg_env0, ↓z_put, Nat.reduceLT, ↓z_ops_plain, ↓z_assign, ↓evW_tmp, ↓lkW_cons, ↓reduceIte, ↓z_ops_nil, ↓z_seq_nrm, ↓z_seq, ↓z_region, ↓evW_const, ↓constW_int, inR_i64, Int.reduceNeg, Int.reduceLE, and_self, ↓z_block, ↓z_loop, true_and])
  refine hold_intro ⟨[], Nat, fun i => ⟨22, 1, [(4, .int .i64 i), (0, .sl 1 l.length (l.map (D.str))), (3, .osl 0 1 (encI l.length ++ (l.take i).flatMap encB).length)], [(0, (encI l.length ++ (l.take i).flatMap encB).map bD)]⟩,
    fun i => i ≤ l.length, fun i => l.length - i, ?_, ?_⟩
  · (simp -dsimp only [↓z_ad_nil, ↓z_wk, ↓z_wkE_cons, ↓lkW_cons, ↓reduceIte, D.int.injEq, true_and, reduceCtorEq, Nat.reduceEqDiff, List.length_append, D.osl.injEq, ↓z_wkE_nil, and_true, ↓z_wkO_cons, ↓lkoW_cons, ↓z_wkO_nil]); (try simp only [Int.toNat_natCast, Nat.mul_one, Bool.or_false, Bool.false_or, Bool.or_self, Bool.or_true])
    exact ⟨0, by omega, by simp⟩
  · intro i hi
    (simp -dsimp only [↓z_seq, ↓z_region, ↓z_ops_plain, ↓z_move, ↓evW_tmp, ↓lkW_cons, ↓reduceIte, ↓z_put, Nat.reduceLT, reduceCtorEq, ↓z_callb, ↓z_evL_cons, ↓z_evL_nil, ↓z_len, ↓y_ty23, ↓z_ln_sl, ↓z_binOp, Nat.reduceEqDiff, ↓z_bn_lss, ↓z_ops_nil, ↓z_seq_nrm, ↓z_cond, ↓z_cnd, ↓z_gdt, ↓z_skip, ↓z_block, ↓z_indexAddr, ↓z_elTy_sl, ↓y_sz9, ↓z_ix_sl, ↓z_load, ↓y_ty9, ↓z_agTy_str, ↓loadW_rop, ↓z_rd_f, ↓z_nth_str, ↓z_callv, ↓evW_func, ↓z_fun0, ↓z_coeL_cons, ↓z_coe_str, ↓z_coeL_nil, true_and, Nat.mul_one, ↓z_exit, ↓z_seq_ext, ↓z_lp_ext, ↓z_blk_ext, ↓z_assign, ↓z_ret, ↓z_end_rt, resLW, res1W, List.length_append, ↓z_own_osl, ↓lkoW_cons, ↓z_allP_bytes, List.length_map, z_ite]); (try simp only [Int.toNat_natCast])
    have hlen : (encI l.length ++ (l.take i).flatMap encB).length ≤ 10 + l.length * 10000 := by
      have := flatMap_len encB 10000 (l.take i) fun x hx => hb x (List.mem_of_mem_take hx)
      have h2 : (l.take i).length * 10000 ≤ l.length * 10000 := Nat.mul_le_mul_right _ (by rw [List.length_take]; omega)
      simp only [List.length_append]; omega
    refine ⟨fun hlt => ⟨by omega, by omega, by omega, call_own (fn_refBytes G _ (hs _ (List.getElem_mem (by omega)))) fun _ => ?_⟩, fun hge => ?_⟩
    · have hx := hb l[i] (List.getElem_mem (by omega))
      (simp -dsimp only [↓z_new, ↓z_nm_cons, ↓z_nmC_bytes, ↓z_nm_nil, ↓z_pg_cons, ↓z_mn_str, ↓z_mn_rop, ↓z_mn_int, ↓z_mn_sl, ↓z_mn_osl, reduceCtorEq, ↓reduceIte, ↓z_mn_bool, ↓z_pg_nil, ↓z_put, Nat.reduceLT, ↓z_ops_plain, ↓z_callb, ↓z_evL_cons, ↓evW_tmp, ↓lkW_cons, Nat.reduceEqDiff, ↓z_evL_nil, ↓z_append, ↓y_ty28, ↓z_slTy, ↓z_nint_sl, ↓y_sz5, ↓y_by5, ↓y_zr5, List.length_cons, List.length_nil, Nat.zero_add, ↓z_src_osl, ↓lkoW_cons, ↓z_allP_bytes, Nat.mul_one, List.length_map, ↓z_app_osl, List.length_append, ↓z_room, maxLen_lit, ↓z_so_cons, ↓z_assign, ↓z_ops_nil, ↓z_blk_nrm, ↓z_seq_nrm, ↓z_region, ↓z_move, ↓z_binOp, ↓evW_const, ↓constW_int, inR_i64, Int.reduceNeg, Int.reduceLE, and_self, ↓z_bn_add, ↓wrW_i64, ↓z_lp_nrm, ↓z_wk, ↓z_wkE_cons, D.int.injEq, true_and, D.osl.injEq, ↓z_wkE_nil, and_true, ↓z_wkO_cons, ↓z_wkO_nil]); (try simp only [Int.toNat_natCast, Nat.mul_one, Bool.or_false, Bool.false_or, Bool.or_self, Bool.or_true])
      simp only [List.length_append] at hlen
      refine ⟨by omega, by omega, by omega, i + 1, by omega, by omega, ⟨by omega, ?_⟩, ?_⟩
      · rw [flatMap_take_succ encB l i (by omega)]; simp [Nat.add_assoc]
      · rw [flatMap_take_succ encB l i (by omega)]; simp
    · have : i = l.length := by omega
      subst this
      simp [encL]

set_option maxHeartbeats 4000000 in
theorem fn_Ints (G : Glob) (l : List Int) (hl : l.length ≤ 100000) (hb : ∀ x ∈ l, (encI x).length ≤ 10000) : FnS G Try.prog 18 [.sl 1 l.length (l.map (D.int .i64))] 1 (encL encI l).length ((encL encI l).map bD) := by
  refine FnS.mk (c := _) Try.func18 rfl rfl Try.ntmps18 Try.results18 ?_
  (simp -dsimp only [bodyW, List.length_cons, List.length_nil, Nat.zero_add, Nat.reduceLeDiff, wfL, ↓z_seq, ↓z_region, ↓z_ops_plain, ↓z_assign, ↓evW_const, ↓constW_nils, ↓z_put, Nat.reduceLT, ↓z_ops_nil, ↓z_seq_nrm, ↓z_move, ↓evW_tmp, ↓lkW_cons, reduceCtorEq, ↓reduceIte, ↓z_lk_env, ↓z_callv, ↓evW_func, ↓z_evL_cons, ↓z_evL_nil, ↓z_fun0, ↓z_coeL_cons, ↓z_coe_sl, ↓z_coe_fn, ↓z_coeL_nil, true_and])
  intro _
  refine call_own (fn_listInt G l 14 encI (fn_Int G) hl fun x hx => Nat.le_trans (hb x hx) (by omega)) fun _ => ?_
  (simp -dsimp only [↓z_new, ↓z_nm_nil, ↓z_pg_cons, ↓z_mn_sl, ↓z_mn_nils, ↓z_pg_env, ↓z_pg_env0, ↓z_put, Nat.reduceLT, ↓z_ops_plain, ↓z_assign, ↓evW_tmp, ↓lkW_cons, ↓reduceIte, ↓z_ops_nil, ↓z_seq_nrm, ↓z_ret, ↓z_end_rt, resLW, res1W, Nat.zero_add, ↓z_own_osl, ↓lkoW_cons, ↓z_allP_bytes, List.length_map, Nat.mul_one, and_self]); (try simp only [Int.toNat_natCast, Nat.mul_one, Bool.or_false, Bool.false_or, Bool.or_self, Bool.or_true])

set_option maxHeartbeats 4000000 in
theorem fn_Strings (G : Glob) (l : List (List UInt8)) (hl : l.length ≤ 100000) (hb : ∀ x ∈ l, (encB x).length ≤ 10000) (hs : ∀ x ∈ l, x.length ≤ 1000000) : FnS G Try.prog 20 [.sl 1 l.length (l.map (D.str))] 1 (encL encB l).length ((encL encB l).map bD) := by
  refine FnS.mk (c := _) Try.func20 rfl rfl Try.ntmps20 Try.results20 ?_
  (simp -dsimp only [bodyW, List.length_cons, List.length_nil, Nat.zero_add, Nat.reduceLeDiff, wfL, ↓z_seq, ↓z_region, ↓z_ops_plain, ↓z_assign, ↓evW_const, ↓constW_nils, ↓z_put, Nat.reduceLT, ↓z_ops_nil, ↓z_seq_nrm, ↓z_move, ↓evW_tmp, ↓lkW_cons, reduceCtorEq, ↓reduceIte, ↓z_lk_env, ↓z_callv, ↓evW_func, ↓z_evL_cons, ↓z_evL_nil, ↓z_fun0, ↓z_coeL_cons, ↓z_coe_sl, ↓z_coe_fn, ↓z_coeL_nil, true_and])
  intro _
  refine call_own (fn_listStr G l 16 encB (fun x hx => fn_Bytes G x (hs x hx)) hl fun x hx => Nat.le_trans (hb x hx) (by omega)) fun _ => ?_
  (simp -dsimp only [↓z_new, ↓z_nm_nil, ↓z_pg_cons, ↓z_mn_sl, ↓z_mn_nils, ↓z_pg_env, ↓z_pg_env0, ↓z_put, Nat.reduceLT, ↓z_ops_plain, ↓z_assign, ↓evW_tmp, ↓lkW_cons, ↓reduceIte, ↓z_ops_nil, ↓z_seq_nrm, ↓z_ret, ↓z_end_rt, resLW, res1W, Nat.zero_add, ↓z_own_osl, ↓lkoW_cons, ↓z_allP_bytes, List.length_map, Nat.mul_one, and_self]); (try simp only [Int.toNat_natCast, Nat.mul_one, Bool.or_false, Bool.false_or, Bool.or_self, Bool.or_true])

end Go.Abs

