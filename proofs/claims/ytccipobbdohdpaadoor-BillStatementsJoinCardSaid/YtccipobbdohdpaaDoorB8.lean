/-
  BILL, seventh walks: lists of integers are encoded; digests.
-/
import Derived.Test.YtccipobbdohdpaaDoorB7
namespace Go.Abs
open Go.Proofs
theorem flatMap_take_succ {α β : Type} (e : α → List β) (l : List α) (i : Nat) (h : i < l.length) : (l.take (i + 1)).flatMap e = (l.take i).flatMap e ++ e l[i] := by
  rw [takeS h, List.flatMap_append, List.flatMap_cons, List.flatMap_nil, List.append_nil]
theorem flatMap_len {α β : Type} (e : α → List β) (m : Nat) : ∀ (l : List α), (∀ x ∈ l, (e x).length ≤ m) → (l.flatMap e).length ≤ l.length * m
  | [], _ => by simp
  | x :: r, h => by
    have h1 := h x (by simp)
    have h2 := flatMap_len e m r fun y hy => h y (by simp [hy])
    simp only [List.flatMap_cons, List.length_append, List.length_cons, Nat.add_mul, Nat.one_mul]; omega
set_option maxHeartbeats 4000000 in
theorem fn_listInt (G : Glob) (l : List Int) (hl : l.length ≤ 100000) (he : ∀ x ∈ l, (encI x).length ≤ 10000) :
    FnS G Tryd.prog 50 [.sl 1 l.length (l.map (D.int .i64)), .fn 31 []] 1 (encL encI l).length ((encL encI l).map bD) := by
  refine FnS.mk (c := _) Tryd.func50 rfl rfl Tryd.ntmps50 Tryd.results50 ?_
  (simp -dsimp only [bodyW, List.length_cons, List.length_nil, Nat.zero_add, Nat.reduceAdd, Nat.reduceLeDiff, wfL, ↓z_seq, ↓z_region, ↓z_ops_plain, ↓z_assign, ↓evW_const, ↓constW_nils, ↓z_put, Nat.reduceLT, ↓z_ops_nil, ↓z_seq_nrm, ↓z_move, ↓evW_tmp, ↓lkW_cons, reduceCtorEq, ↓reduceIte, ↓z_lk_env, ↓z_callb, ↓z_evL_cons, ↓z_evL_nil, ↓z_len, ↓y_ty54, ↓z_ln_sl, ↓z_callv, ↓evW_func, ↓z_fun0, ↓z_coeL_cons, ↓z_coe_int, ↓z_coeL_nil, true_and])
  intro _ _
  refine call_own (fn_Int G l.length) fun _ => ?_
  have h10 := encI_len (v := l.length) (by omega) (by omega)
  (simp -dsimp only [↓z_new, ↓z_nm_nil, Nat.reduceLT, ↓z_pg_cons, ↓z_mn_int, ↓z_mn_sl, ↓z_mn_nils, ↓z_pg_env, ↓z_mn_fn, ↓z_pg_env0, ↓z_put, ↓z_ops_plain, ↓z_assign, ↓evW_tmp, ↓lkW_cons, ↓reduceIte, ↓z_ops_nil, ↓z_seq_nrm, ↓z_seq, ↓z_region, ↓z_move, reduceCtorEq, ↓z_callb, ↓z_evL_cons, ↓z_evL_nil, ↓z_len, ↓y_ty54, ↓z_ln_sl, ↓evW_const, ↓constW_int, inR_i64, Int.reduceNeg, Int.reduceLE, and_self, ↓z_block, ↓z_loop, true_and])
  refine hold_intro ⟨[], Nat, fun i => ⟨24, 1, [(13, .int .i64 i), (12, .int .i64 l.length), (11, .sl 1 l.length (l.map (D.int .i64))), (1, .fn 31 []), (5, .osl 0 1 (encI l.length ++ (l.take i).flatMap encI).length)], [(0, (encI l.length ++ (l.take i).flatMap encI).map bD)]⟩,
    fun i => i ≤ l.length, fun i => l.length - i, ?_, ?_⟩
  · (simp -dsimp only [↓z_ad_nil, ↓z_wk, ↓z_wkE_cons, ↓lkW_cons, ↓reduceIte, D.int.injEq, true_and, Nat.reduceEqDiff, reduceCtorEq, Nat.zero_add, List.length_append, D.osl.injEq, ↓z_wkE_nil, and_true, ↓z_wkO_cons, ↓lkoW_cons, ↓z_wkO_nil]); (try simp only [Int.toNat_natCast, Nat.mul_one, Bool.or_false, Bool.false_or, Bool.or_self, Bool.or_true])
    exact ⟨0, by omega, by simp⟩
  · intro i hi
    (simp -dsimp only [↓z_seq, ↓z_region, ↓z_ops_plain, ↓z_binOp, ↓evW_tmp, ↓lkW_cons, ↓reduceIte, Nat.reduceEqDiff, ↓z_bn_lss, ↓z_put, Nat.reduceLT, ↓z_ops_nil, ↓z_seq_nrm, ↓z_cond, ↓z_cnd, ↓z_gdt, ↓z_skip, ↓z_block, ↓z_indexAddr, ↓y_ty54, ↓z_elTy_sl, ↓y_sz3, ↓z_ix_sl, ↓z_load, ↓y_ty3, ↓z_agTy_int, ↓loadW_rop, ↓z_rd_f, ↓z_nth_int, ↓z_assign, ↓z_move, ↓z_callv, ↓z_evL_cons, ↓z_evL_nil, ↓z_fun0, ↓z_coeL_cons, ↓z_coe_int, ↓z_coeL_nil, true_and, Nat.mul_one, ↓z_exit, ↓z_seq_ext, ↓z_lp_ext, ↓z_blk_ext, ↓z_ret, ↓z_end_rt, resLW, res1W, List.length_append, ↓z_own_osl, ↓lkoW_cons, ↓z_allP_bytes, List.length_map, z_ite]); (try simp only [Int.toNat_natCast])
    have hlen : (encI l.length ++ (l.take i).flatMap encI).length ≤ 10 + l.length * 10000 := by
      have := flatMap_len encI 10000 (l.take i) fun x hx => he x (List.mem_of_mem_take hx)
      have h2 : (l.take i).length * 10000 ≤ l.length * 10000 := Nat.mul_le_mul_right _ (by rw [List.length_take]; omega)
      simp only [List.length_append]; omega
    refine ⟨fun hlt => ⟨by omega, by omega, by omega, call_own (fn_Int G _) fun _ => ?_⟩, fun hge => ?_⟩
    · have hx := he l[i] (List.getElem_mem (by omega))
      (simp -dsimp only [↓z_new, ↓z_nm_cons, ↓z_nmC_bytes, ↓z_nm_nil, Nat.reduceLT, ↓z_pg_cons, ↓z_mn_int, ↓z_mn_fn, ↓z_mn_osl, reduceCtorEq, ↓reduceIte, ↓z_mn_rop, ↓z_mn_bool, ↓z_mn_sl, ↓z_pg_nil, ↓z_put, ↓z_ops_plain, ↓z_callb, ↓z_evL_cons, ↓evW_tmp, ↓lkW_cons, Nat.reduceEqDiff, ↓z_evL_nil, ↓z_append, ↓y_ty78, ↓z_slTy, ↓z_nint_sl, ↓y_sz5, ↓y_by5, ↓y_zr5, List.length_cons, List.length_nil, Nat.zero_add, ↓z_src_osl, ↓lkoW_cons, ↓z_allP_bytes, Nat.mul_one, List.length_map, ↓z_app_osl, List.length_append, ↓z_room, maxLen_lit, ↓z_pgo_cons, ↓z_pgc_nm, ↓z_pgo_nil, ↓z_so_cons, ↓z_assign, ↓z_ops_nil, ↓z_blk_nrm, ↓z_seq_nrm, ↓z_region, ↓z_binOp, ↓evW_const, ↓constW_int, inR_i64, Int.reduceNeg, Int.reduceLE, and_self, ↓z_bn_add, ↓wrW_i64, ↓z_move, ↓z_lp_nrm, ↓z_wk, ↓z_wkE_cons, D.int.injEq, true_and, D.osl.injEq, ↓z_wkE_nil, and_true, ↓z_wkO_cons, ↓z_wkO_nil]); (try simp only [Int.toNat_natCast, Nat.mul_one, Bool.or_false, Bool.false_or, Bool.or_self, Bool.or_true])
      simp only [List.length_append] at hlen
      refine ⟨by omega, by omega, by omega, i + 1, by omega, by omega, ⟨by omega, ?_⟩, ?_⟩
      · rw [flatMap_take_succ encI l i (by omega)]; simp [Nat.add_assoc]
      · rw [flatMap_take_succ encI l i (by omega)]; simp
    · have : i = l.length := by omega
      subst this
      simp [encL]
set_option maxHeartbeats 4000000 in
theorem fn_Ints (G : Glob) (l : List Int) (hl : l.length ≤ 100000) (hb : ∀ x ∈ l, (encI x).length ≤ 10000) : FnS G Tryd.prog 32 [.sl 1 l.length (l.map (D.int .i64))] 1 (encL encI l).length ((encL encI l).map bD) := by
  refine FnS.mk (c := _) Tryd.func32 rfl rfl Tryd.ntmps32 Tryd.results32 ?_
  (simp -dsimp only [bodyW, List.length_cons, List.length_nil, Nat.zero_add, Nat.reduceLeDiff, wfL, ↓z_seq, ↓z_region, ↓z_ops_plain, ↓z_assign, ↓evW_const, ↓constW_nils, ↓z_put, Nat.reduceLT, ↓z_ops_nil, ↓z_seq_nrm, ↓z_move, ↓evW_tmp, ↓lkW_cons, reduceCtorEq, ↓reduceIte, ↓z_lk_env, ↓z_callv, ↓evW_func, ↓z_evL_cons, ↓z_evL_nil, ↓z_fun0, ↓z_coeL_cons, ↓z_coe_sl, ↓z_coe_fn, ↓z_coeL_nil, true_and])
  intro _
  refine call_own (fn_listInt G l hl hb) fun _ => ?_
  (simp -dsimp only [↓z_new, ↓z_nm_nil, Nat.reduceLT, ↓z_pg_cons, ↓z_mn_sl, ↓z_mn_nils, ↓z_pg_env, ↓z_pg_env0, ↓z_put, ↓z_ops_plain, ↓z_assign, ↓evW_tmp, ↓lkW_cons, ↓reduceIte, ↓z_ops_nil, ↓z_seq_nrm, ↓z_ret, ↓z_end_rt, resLW, res1W, Nat.zero_add, ↓z_own_osl, ↓lkoW_cons, ↓z_allP_bytes, List.length_map, Nat.mul_one, and_self]); (try simp only [Int.toNat_natCast, Nat.mul_one, Bool.or_false, Bool.false_or, Bool.or_self, Bool.or_true])
set_option maxHeartbeats 4000000 in
theorem fn_refInts (G : Glob) (l : List Int) (hl : l.length ≤ 100000) (hb : ∀ x ∈ l, (encI x).length ≤ 10000) : FnS G Tryd.prog 36 [.sl 1 l.length (l.map (D.int .i64))] 1 (encL encI l).length ((encL encI l).map bD) := by
  refine FnS.mk (c := _) Tryd.func36 rfl rfl Tryd.ntmps36 Tryd.results36 ?_
  (simp -dsimp only [bodyW, List.length_cons, List.length_nil, Nat.zero_add, Nat.reduceLeDiff, wfL, ↓z_seq, ↓z_region, ↓z_ops_plain, ↓z_assign, ↓evW_const, ↓constW_nils, ↓z_put, Nat.reduceLT, ↓z_ops_nil, ↓z_seq_nrm, ↓z_move, ↓evW_tmp, ↓lkW_cons, reduceCtorEq, ↓reduceIte, ↓z_lk_env, ↓z_callb, ↓z_evL_cons, ↓z_evL_nil, ↓z_len, ↓y_ty54, ↓z_ln_sl, ↓z_callv, ↓evW_func, ↓z_fun0, ↓z_coeL_cons, ↓z_coe_int, ↓z_coeL_nil, true_and])
  intro _
  refine call_own (fn_refInt G l.length) fun _ => ?_
  have h10 := encI_len (v := l.length) (by omega) (by omega)
  (simp -dsimp only [↓z_new, ↓z_nm_nil, Nat.reduceLT, ↓z_pg_cons, ↓z_mn_int, ↓z_mn_sl, ↓z_mn_nils, ↓z_pg_env, ↓z_pg_env0, ↓z_put, ↓z_ops_plain, ↓z_assign, ↓evW_tmp, ↓lkW_cons, ↓reduceIte, ↓z_ops_nil, ↓z_seq_nrm, ↓z_seq, ↓z_region, ↓evW_const, ↓constW_int, inR_i64, Int.reduceNeg, Int.reduceLE, and_self, ↓z_block, ↓z_loop, true_and])
  refine hold_intro ⟨[], Nat, fun i => ⟨22, 1, [(4, .int .i64 i), (0, .sl 1 l.length (l.map (D.int .i64))), (3, .osl 0 1 (encI l.length ++ (l.take i).flatMap encI).length)], [(0, (encI l.length ++ (l.take i).flatMap encI).map bD)]⟩,
    fun i => i ≤ l.length, fun i => l.length - i, ?_, ?_⟩
  · (simp -dsimp only [↓z_ad_nil, ↓z_wk, ↓z_wkE_cons, ↓lkW_cons, ↓reduceIte, D.int.injEq, true_and, reduceCtorEq, Nat.reduceEqDiff, List.length_append, D.osl.injEq, ↓z_wkE_nil, and_true, ↓z_wkO_cons, ↓lkoW_cons, ↓z_wkO_nil]); (try simp only [Int.toNat_natCast, Nat.mul_one, Bool.or_false, Bool.false_or, Bool.or_self, Bool.or_true])
    exact ⟨0, by omega, by simp⟩
  · intro i hi
    (simp -dsimp only [↓z_seq, ↓z_region, ↓z_ops_plain, ↓z_move, ↓evW_tmp, ↓lkW_cons, ↓reduceIte, ↓z_put, Nat.reduceLT, reduceCtorEq, ↓z_callb, ↓z_evL_cons, ↓z_evL_nil, ↓z_len, ↓y_ty54, ↓z_ln_sl, ↓z_binOp, Nat.reduceEqDiff, ↓z_bn_lss, ↓z_ops_nil, ↓z_seq_nrm, ↓z_cond, ↓z_cnd, ↓z_gdt, ↓z_skip, ↓z_block, ↓z_indexAddr, ↓z_elTy_sl, ↓y_sz3, ↓z_ix_sl, ↓z_load, ↓y_ty3, ↓z_agTy_int, ↓loadW_rop, ↓z_rd_f, ↓z_nth_int, ↓z_callv, ↓evW_func, ↓z_fun0, ↓z_coeL_cons, ↓z_coe_int, ↓z_coeL_nil, true_and, Nat.mul_one, ↓z_exit, ↓z_seq_ext, ↓z_lp_ext, ↓z_blk_ext, ↓z_assign, ↓z_ret, ↓z_end_rt, resLW, res1W, List.length_append, ↓z_own_osl, ↓lkoW_cons, ↓z_allP_bytes, List.length_map, z_ite]); (try simp only [Int.toNat_natCast])
    have hlen : (encI l.length ++ (l.take i).flatMap encI).length ≤ 10 + l.length * 10000 := by
      have := flatMap_len encI 10000 (l.take i) fun x hx => hb x (List.mem_of_mem_take hx)
      have h2 : (l.take i).length * 10000 ≤ l.length * 10000 := Nat.mul_le_mul_right _ (by rw [List.length_take]; omega)
      simp only [List.length_append]; omega
    refine ⟨fun hlt => ⟨by omega, by omega, by omega, call_own (fn_refInt G _) fun _ => ?_⟩, fun hge => ?_⟩
    · have hx := hb l[i] (List.getElem_mem (by omega))
      (simp -dsimp only [↓z_new, ↓z_nm_cons, ↓z_nmC_bytes, ↓z_nm_nil, Nat.reduceLT, ↓z_pg_cons, ↓z_mn_int, ↓z_mn_rop, ↓z_mn_sl, ↓z_mn_osl, reduceCtorEq, ↓reduceIte, ↓z_mn_bool, ↓z_pg_nil, ↓z_put, ↓z_ops_plain, ↓z_callb, ↓z_evL_cons, ↓evW_tmp, ↓lkW_cons, Nat.reduceEqDiff, ↓z_evL_nil, ↓z_append, ↓y_ty78, ↓z_slTy, ↓z_nint_sl, ↓y_sz5, ↓y_by5, ↓y_zr5, List.length_cons, List.length_nil, Nat.zero_add, ↓z_src_osl, ↓lkoW_cons, ↓z_allP_bytes, Nat.mul_one, List.length_map, ↓z_app_osl, List.length_append, ↓z_room, maxLen_lit, ↓z_pgo_cons, ↓z_pgc_nm, ↓z_pgo_nil, ↓z_so_cons, ↓z_assign, ↓z_ops_nil, ↓z_blk_nrm, ↓z_seq_nrm, ↓z_region, ↓z_move, ↓z_binOp, ↓evW_const, ↓constW_int, inR_i64, Int.reduceNeg, Int.reduceLE, and_self, ↓z_bn_add, ↓wrW_i64, ↓z_lp_nrm, ↓z_wk, ↓z_wkE_cons, D.int.injEq, true_and, D.osl.injEq, ↓z_wkE_nil, and_true, ↓z_wkO_cons, ↓z_wkO_nil]); (try simp only [Int.toNat_natCast, Nat.mul_one, Bool.or_false, Bool.false_or, Bool.or_self, Bool.or_true])
      simp only [List.length_append] at hlen
      refine ⟨by omega, by omega, by omega, i + 1, by omega, by omega, ⟨by omega, ?_⟩, ?_⟩
      · rw [flatMap_take_succ encI l i (by omega)]; simp [Nat.add_assoc]
      · rw [flatMap_take_succ encI l i (by omega)]; simp
    · have : i = l.length := by omega
      subst this
      simp [encL]
theorem poI_enc {acc : Int} {p : Po} (h : pOk acc p) (ha : acc ≤ 40) : (∀ x ∈ poI p, (encI x).length ≤ 10) ∧ (encL encI (poI p)).length ≤ 70 := by
  obtain ⟨h1, h2⟩ := h
  unfold badP at h1; unfold outP at h2
  have hx : ∀ x ∈ poI p, (encI x).length ≤ 10 := fun x hx => by
    simp only [poI, List.mem_cons, List.not_mem_nil, or_false] at hx
    refine encI_len ?_ ?_ <;> (rcases hx with rfl | rfl | rfl | rfl | rfl | rfl <;> omega)
  have h3 := flatMap_len encI 10 (poI p) hx
  have h4 := encI_len (v := (poI p).length) (by simp [poI]) (by simp [poI])
  have h5 : (poI p).length = 6 := rfl
  refine ⟨hx, ?_⟩
  unfold encL
  rw [List.length_append]; omega
def dgE (acc : Int) (ps : List Po) (n : Int) : Int := if chkB acc ps = 0 then (if n < 0 ∨ ps.length < n then 1 else 0) else chkB acc ps
def dgD (acc : Int) (ps : List Po) (n : Int) : List UInt8 := if dgE acc ps n = 0 then digF acc (ps.take n.toNat) else List.replicate 16 0
theorem dgD_len (acc : Int) (ps : List Po) (n : Int) : (dgD acc ps n).length = 16 := by unfold dgD; split; exact digF_len _ _; rfl
theorem dg_tk {d : List UInt8} (h : d.length = 16) : List.take 16 (List.drop 0 (d.map bD)) = d.map bD := List.take_of_length_le (by simp [h])
theorem enc_parts1 {acc : Int} (h0 : 1 ≤ acc) (h1 : acc ≤ 40) : (∀ x ∈ [encI acc], x.length ≤ 1000000) ∧ (([encI acc] : List (List UInt8)).flatMap encB).length ≤ 1000000000 := by
  have h2 := encI_len (v := acc) (by omega) (by omega)
  have h3 := encB_len (s := encI acc) (by omega)
  exact ⟨fun x hx => by simp at hx; subst hx; omega, by simp only [List.flatMap_cons, List.flatMap_nil, List.append_nil]; omega⟩
theorem enc_parts2 {d e : List UInt8} (hd : d.length = 16) (he : e.length ≤ 70) : (∀ x ∈ [d, e], x.length ≤ 1000000) ∧ (([d, e] : List (List UInt8)).flatMap encB).length ≤ 1000000000 := by
  have h2 := encB_len (s := d) (by omega)
  have h3 := encB_len (s := e) (by omega)
  exact ⟨fun x hx => by simp at hx; rcases hx with rfl | rfl <;> omega, by simp only [List.flatMap_cons, List.flatMap_nil, List.append_nil, List.length_append]; omega⟩
set_option maxRecDepth 100000 in
set_option maxHeartbeats 8000000 in
theorem fn_Digest (acc : Int) (ps : List Po) (n : Int) : Fn GH Tryd.prog 13 [.agg (bkC acc ps), .int .i64 n] (.tup [.agg ((dgD acc ps n).map bD), .int .i64 (dgE acc ps n)]) := by
  have hC := fn_Check GH acc ps
  unfold bkC at hC ⊢
  refine Fn.mk (c := _) Tryd.func13 rfl rfl Tryd.ntmps13 Tryd.results13 ?_
  (simp -dsimp only [bodyW, List.length_cons, List.length_nil, Nat.zero_add, Nat.reduceAdd, Nat.reduceLeDiff, wfL, ↓z_seq, ↓z_region, ↓z_ops_plain, ↓z_box, ↓evW_tmp, ↓z_lk_env, ↓reduceIte, ↓z_cl_agg, ↓z_nmC_cons, ↓z_mn'_int, ↓z_mn'_sl, ↓z_nmC_nil, and_self, ↓z_new, ↓z_nm_nil, Nat.reduceLT, ↓z_pg_env, ↓z_mn_agg, ↓z_mn_int, ↓z_pg_env0, ↓z_put, ↓z_alloc, ↓y_zr40, ↓z_nm_cons, ↓z_pg_cons, ↓z_mn_ptr, reduceCtorEq, ↓z_pg_nil, ↓z_assign, ↓evW_const, ↓constW_int, inR_i64, Int.reduceNeg, Int.reduceLE, ↓z_ops_nil, ↓z_seq_nrm, ↓z_load, ↓lkW_cons, Nat.reduceEqDiff, ↓y_ty24, ↓y_sz24, ↓z_agTy_st, ↓loadW_ptr, ↓lkoW_cons, ↓z_rd_t, ↓z_sub_c, ↓z_sub_nil, ↓z_callv, ↓evW_func, ↓z_evL_cons, ↓z_evL_nil, ↓z_fun0, ↓z_coeL_cons, ↓z_coe_oag, ↓z_coeC_cons, ↓z_coeS_int, ↓z_coeS_sl, ↓z_coeC_nil, ↓z_coeL_nil, true_and])
  intro hd _
  refine call_fnL hC rfl fun _ => ?_
  (simp -dsimp only [↓z_put, Nat.reduceLT, ↓z_ops_plain, ↓z_assign, ↓evW_tmp, ↓lkW_cons, ↓reduceIte, ↓z_ops_nil, ↓z_seq_nrm, ↓z_seq, ↓z_region, ↓z_move, ↓z_binOp, ↓evW_const, ↓constW_int, inR_i64, Int.reduceNeg, Int.reduceLE, and_self, ↓z_bn_neq, ↓z_cond, ↓z_cnd, ↓z_gdt, ne_eq, ↓z_build, ↓y_ty40, ↓z_blTy_arr, ↓y_zr40, ↓y_sz5, ↓z_bld_nil, Nat.reduceEqDiff, ↓z_store, ↓y_sz40, ↓z_cl_oag, List.length_cons, List.length_nil, Nat.zero_add, Nat.reduceAdd, ↓z_store_ptr, ↓lkoW_cons, Nat.reduceLeDiff, ↓spsW_cons, ↓drW_cons, reduceCtorEq, Nat.reduceSub, ↓drW_nil, ↓z_cat_nil_r, ↓z_so_cons, ↓z_put_none, ↓z_ret, ↓z_seq_rt, ↓z_end_rt, resLW, res1W, ↓z_agTy_arr, ↓z_coeL_cons, ↓z_coeL_nil, ↓z_pack2, D.tup.injEq, List.cons.injEq, and_true, ↓z_coe_int, D.int.injEq, true_and, ↓loadW_ptr, ↓z_rd_t, ↓z_sub_c, ↓z_sub_nil, ↓z_coe_oag, ↓z_coeC_cons, ↓z_coeS_int, ↓z_coeC_nil, D.agg.injEq, ↓z_skip, ↓z_bn_lss, ↓z_ops_guard, ↓z_grd, ↓z_dst_s, ↓z_dst_0, ↓z_grdD_b, ↓z_gdf, ↓z_gnf, ↓z_gft, ↓z_pick, ↓z_pick_b, ↓z_gnt, ↓z_gff, ↓constW_bool, ↓z_gtt, Bool.not_false, ↓z_fieldAddr, ↓y_fl24x1, ↓y_sz22, not_false_eq_true, ↓z_fa_ptr, ↓z_load, ↓y_ty22, ↓z_agTy_sl, ↓z_rd_f, ↓nthW_cons, ↓z_callb, ↓z_evL_cons, ↓z_evL_nil, ↓z_len, ↓z_ln_sl, ↓z_bn_gtr, ↓y_fl24x0, ↓y_sz3, ↓y_ty3, ↓z_agTy_int, ↓z_callv, ↓evW_func, ↓z_fun0, z_ite, Classical.not_not])
  refine ⟨fun c0 => ?_, fun c0 => ?_⟩
  · have e : dgE acc ps n = chkB acc ps := if_neg c0
    unfold dgD
    rw [e, if_neg c0]
    exact ⟨rfl, rfl⟩
  have hb := chkB_ok c0
  have hlen := hb.len
  have no : n < 0 ∨ ps.length < n → dgE acc ps n = 1 ∧ dgD acc ps n = List.replicate 16 0 := fun h => by
    have e : dgE acc ps n = 1 := by unfold dgE; rw [if_pos c0, if_pos h]
    exact ⟨e, by unfold dgD; rw [e]; rfl⟩
  refine ⟨fun g => ?_, fun g => ⟨fun g2 => ?_, fun g2 => ?_⟩⟩
  · obtain ⟨e1, e2⟩ := no (.inl g)
    rw [e1, e2]
    exact ⟨rfl, rfl⟩
  · obtain ⟨e1, e2⟩ := no (.inr g2)
    rw [e1, e2]
    exact ⟨rfl, rfl⟩
  have e1 : dgE acc ps n = 0 := by unfold dgE; rw [if_pos c0, if_neg (by omega)]
  have e2 : dgD acc ps n = digF acc (ps.take n.toNat) := by unfold dgD; rw [if_pos e1]
  rw [e1, e2]
  refine call_own (fn_Int GH acc) fun _ => ?_
  (simp -dsimp only [↓z_new, ↓z_nm_cons, ↓z_nmC_cons, ↓z_mn'_int, ↓z_nmC_nil, and_self, ↓z_mn'_sl, ↓z_nm_nil, Nat.zero_add, Nat.reduceAdd, Nat.reduceLT, ↓z_pg_cons, ↓z_mn_int, ↓z_mn_ptr, reduceCtorEq, ↓reduceIte, ↓z_mn_bool, ↓z_mn_sl, ↓z_mn_oag, ↓z_mnL_int, ↓z_mnL_sl, ↓z_mnL_nil, Nat.reduceEqDiff, ↓z_mn_agg, ↓z_pg_nil, ↓z_put, ↓z_ops_plain, ↓z_convert, ↓evW_tmp, ↓lkW_cons, ↓y_ty78, ↓y_ty9, ↓z_cvt_bs, ↓y_ty5, ↓z_u8, ↓z_cv_bs_osl, ↓z_src_osl, ↓lkoW_cons, ↓z_allP_bytes, List.length_map, Nat.mul_one, ↓bsW_map, ↓z_buildSlice, ↓y_ty82, ↓z_slTy, ↓y_sz9, Nat.reduceLeDiff, maxLen_lit, ↓y_zr9, List.length_cons, List.length_nil, ↓z_repL_s, ↓z_repL_0, ↓z_cat_nil_r, ↓z_bld_cons, ↓z_cl_str, ↓spsW_cons, ↓drW_cons, ↓drW_nil, ↓z_bld_nil, ↓z_allP_cons, ↓z_isP_str, ↓z_allP_nil, ↓z_callv, ↓evW_func, ↓z_evL_cons, ↓evW_const, ↓constW_int, inR_i64, Int.reduceNeg, Int.reduceLE, ↓z_evL_nil, ↓z_fun0, ↓z_coeL_cons, ↓z_coe_int, ↓z_coe_slx, ↓z_coeL_nil, true_and])
  obtain ⟨q1, q2⟩ := enc_parts1 hb.a1 hb.a2
  have hO := fn_Of 204 [encI acc] q1 q2
  have l16 := ofD_len 204 [encI acc]
  refine call_fnL (hO.weak (.cons (.refl _) (.cons (.slx ..) .nil))) (flS_bytes _) fun _ => ?_
  (simp -dsimp only [↓z_put, Nat.reduceLT, ↓z_ops_plain, ↓z_alloc, ↓y_zr40, ↓z_new, ↓z_nm_cons, ↓z_nmC_bytes, ↓z_nmC_cons, ↓z_mn'_int, ↓z_nmC_nil, and_self, ↓z_mn'_sl, ↓z_nm_nil, Nat.zero_add, Nat.reduceAdd, ↓z_pg_cons, ↓z_mn_agg, ↓z_mn_slx, ↓z_mn_str, ↓z_mn_osl, Nat.reduceEqDiff, ↓reduceIte, ↓z_mn_int, ↓z_mn_ptr, reduceCtorEq, ↓z_mn_bool, ↓z_mn_sl, ↓z_mn_oag, ↓z_mnL_int, ↓z_mnL_sl, ↓z_mnL_nil, ↓z_pg_nil, ↓z_store, ↓evW_tmp, ↓lkW_cons, ↓y_sz40, ↓z_cl_agg, List.length_map, ↓z_store_ptr, ↓lkoW_cons, List.length_cons, List.length_nil, Nat.reduceLeDiff, ↓spsW_cons, ↓drW_cons, Nat.reduceSub, ↓drW_nil, ↓z_cat_nil_r, ↓z_so_cons, ↓z_put_none, ↓z_ops_nil, ↓z_seq_nrm, ↓z_seq, ↓z_region, ↓z_fieldAddr, ↓y_fl24x1, ↓y_sz22, ne_eq, not_false_eq_true, ↓z_fa_ptr, ↓z_load, ↓y_ty22, ↓z_agTy_sl, ↓loadW_ptr, ↓z_rd_f, ↓nthW_cons, ↓z_move, ↓z_slice, ↓z_evO_none, ↓z_bo_none, ↓z_evO_some, ↓z_bo_some, ↓z_seTy_sl, ↓y_sz26, ↓z_slc_sl_nh, ↓z_callb, ↓z_evL_cons, ↓z_evL_nil, ↓z_len, ↓z_ln_sl, ↓evW_const, ↓constW_int, inR_i64, Int.reduceNeg, Int.reduceLE, ↓z_block, ↓z_loop, true_and, z_sub])
  have hm : n.toNat ≤ ps.length := by omega
  obtain ⟨qs, hqs⟩ : ∃ qs, qs = ps.take n.toNat := ⟨_, rfl⟩
  have hql : qs.length = n.toNat := by rw [hqs, List.length_take]; omega
  have hqb : BkOk acc qs := by rw [hqs]; exact bk_take hb _
  have hcut : List.take (n.toNat * 6) (List.drop 0 (List.flatMap poC ps)) = List.flatMap poC qs := by rw [List.drop_zero, fm_take po_len1, hqs]
  rw [← hqs]
  refine ⟨l16, by omega, by omega, hold_intro ⟨[], Nat, fun i => ⟨62, 4, [(37, .int .i64 i), (36, .int .i64 n.toNat), (35, .sl 6 n.toNat (List.flatMap poC qs)), (7, .ptr 3 0), (4, .ptr 1 0)], [(3, (digF acc (qs.take i)).map bD), (1, (List.replicate 16 (0 : UInt8)).map bD)]⟩, fun i => i ≤ n.toNat, fun i => n.toNat - i, ?_, ?_⟩⟩
  · (simp -dsimp only [↓z_ad_nil, ↓z_wk, ↓z_wkE_cons, ↓lkW_cons, ↓reduceIte, D.int.injEq, true_and, Nat.reduceEqDiff, hcut, Nat.zero_add, Nat.reduceAdd, ↓z_wkE_nil, and_self, and_true, ↓z_wkO_cons, ↓lkoW_cons, ↓z_wkO_nil]); (try simp only [Int.toNat_natCast, Nat.mul_one, Bool.or_false, Bool.false_or, Bool.or_self, Bool.or_true])
    exact ⟨0, by omega, rfl, rfl, rfl⟩
  intro i hi
  have hdl := digF_len acc (qs.take i)
  have tk := dg_tk hdl
  have hk : List.take 16 (digF acc (qs.take i)) = digF acc (qs.take i) := List.take_of_length_le (by omega)
  by_cases h : i < n.toNat
  · have h' : i < qs.length := by omega
    have hl2 := po_len qs
    have hsub := fun k => po_sub h' k
    have hlt : ((i : Int) < (n.toNat : Int)) = True := eq_true (by omega)
    have hok := hqb.ok _ (List.getElem_mem h')
    obtain ⟨p1, p2⟩ := poI_enc hok hb.a2
    have hI := fn_Ints GH (poI qs[i]) (by simp [poI]) fun x hx => Nat.le_trans (p1 x hx) (by omega)
    obtain ⟨r1, r2⟩ := enc_parts2 hdl p2
    have hO2 := fn_Of 205 [digF acc (qs.take i), encL encI (poI qs[i])] r1 r2
    have hs := digF_s (acc := acc) h'
    have l2 := digF_len acc (qs.take (i + 1))
    rw [← hs] at hO2
    (simp -dsimp only [↓z_seq, ↓z_region, ↓z_ops_plain, ↓z_binOp, ↓evW_tmp, ↓lkW_cons, ↓reduceIte, Nat.reduceEqDiff, ↓z_bn_lss, ↓z_put, Nat.reduceLT, ↓z_ops_nil, ↓z_seq_nrm, ↓z_cond, ↓z_cnd, ↓z_gdt, hlt, ↓z_skip, ↓z_block, ↓z_indexAddr, ↓y_ty22, ↓z_elTy_sl, ↓y_sz26, ↓z_ix_sl, ↓z_load, ↓y_ty26, ↓z_agTy_st, ↓loadW_rop, ↓z_rd_t, hl2, ↓hsub, ↓z_alloc, ↓y_zr26, ↓z_new, ↓z_nm_cons, ↓z_nmC_bytes, ↓z_nm_nil, ↓z_pg_cons, ↓z_mn_agg, ↓z_mn_rop, ↓z_mn_bool, ↓z_mn_int, ↓z_mn_sl, ↓z_mn_ptr, ↓z_pg_nil, ↓z_store, ↓z_cl_agg, List.length_cons, List.length_nil, Nat.zero_add, Nat.reduceAdd, ↓z_store_ptr, ↓lkoW_cons, Nat.reduceLeDiff, ↓spsW_cons, ↓drW_cons, reduceCtorEq, Nat.reduceSub, ↓drW_nil, ↓z_cat_nil_r, ↓z_so_cons, ↓z_put_none, ↓z_region_d, ↓y_mix, true_and]); (try simp only [Int.toNat_natCast])
    refine ⟨by omega, by omega, rgn_d (by decide +kernel) ?_⟩
    (simp -dsimp only [↓z_drw_slice, ↓z_drwS, ↓z_grd_none, ↓z_withE, ↓z_rd_tmp, ↓lkW_cons, Nat.reduceEqDiff, ↓reduceIte, ↓z_oLn, List.append_nil, ↓z_ap_cons, ↓z_or_slice, ↓z_slice, ↓evW_tmp, ↓z_evO_none, ↓z_bo_none, ↓y_ty40, ↓z_seTy_arr, ↓y_sz5, ↓z_slc_ptr_nn, ↓lkoW_cons, Nat.mul_one, Nat.zero_add, List.length_map, hdl, Nat.reduceLeDiff, maxLen_lit, Nat.reduceAdd, and_true, true_and, ↓z_rd_nil, ↓z_ap_nil, ↓z_exD_all, ↓z_exD_eq, ↓z_put, Nat.reduceLT, ↓z_drwK, ↓z_drw_convert, ↓z_or_convert, ↓y_ty78, ↓y_ty9, ↓z_cvR_sl, ↓z_convert, ↓z_cvt_bs, ↓y_ty5, ↓z_u8, ↓z_cv_bs_osw, ↓z_src_osw, ↓z_allP_bytes, ↓z_sub_map, ↓bsW_map, List.drop_zero, ↓z_drw_fieldAddr, ↓z_or_fieldAddr, ↓z_fieldAddr, ↓y_fl26x0, ↓y_sz3, ne_eq, reduceCtorEq, not_false_eq_true, ↓z_fa_ptr, ↓z_drw_load, ↓z_or_load, ↓z_load, ↓y_ty3, ↓z_agTy_int, ↓loadW_ptr, ↓z_rd_f, ↓nthW_cons, ↓y_fl26x1, Nat.reduceSub, ↓y_fl26x2, ↓y_fl26x3, ↓y_fl26x4, ↓y_fl26x5, ↓z_drw_buildSlice, ↓z_mpO_cons, ↓z_mpO_nil, ↓z_ap_app, ↓z_or_buildSlice, ↓z_buildSlice, ↓y_ty54, ↓z_slTy, ↓y_zr3, List.length_cons, List.length_nil, ↓z_repL_s, ↓z_repL_0, ↓z_cat_nil_r, ↓catW_cons, ↓catW_nil, ↓z_bld_cons, ↓z_cl_int, ↓spsW_cons, ↓drW_cons, ↓drW_nil, ↓z_bld_nil, ↓z_allP_cons, ↓z_isP_int, ↓z_allP_nil, and_self, ↓z_drw_callv, ↓z_rd_func]); (try simp only [Int.toNat_natCast, Nat.mul_one, Bool.or_false, Bool.false_or, Bool.or_self, Bool.or_true])
    refine ex_mk (.sl 1 (encL encI (poI qs[i])).length ((encL encI (poI qs[i])).map bD)) (fun E => by
      (simp -dsimp only [↓z_ap_cons, ↓z_ap_nil, ↓z_callv, ↓evW_func, ↓z_evL_cons, ↓evW_tmp, ↓lkW_cons, ↓reduceIte, ↓z_evL_nil, ↓z_fun0, ↓z_coeL_cons, ↓z_coe_slx, ↓z_coeL_nil]); (try simp only [Int.toNat_natCast, Nat.mul_one, Bool.or_false, Bool.false_or, Bool.or_self, Bool.or_true])
      exact call_fn ((hI.fn.inp rfl).weak (.cons (.slx ..) .nil)) fun _ => ⟨rfl, rfl⟩) ?_
    (simp -dsimp only [↓z_put, Nat.reduceLT, ↓z_drwK, ↓z_drw_convert, ↓z_drwS, ↓z_grd_none, ↓z_withE, ↓z_rd_tmp, ↓lkW_cons, ↓reduceIte, ↓z_rd_nil, ↓z_ap_cons, ↓z_ap_nil, ↓z_or_convert, ↓y_ty78, ↓y_ty9, ↓z_cvR_sl, ↓z_convert, ↓evW_tmp, ↓z_cvt_bs, ↓y_ty5, ↓z_u8, ↓z_cv_bs_sl, ↓bsW_map, Nat.reduceAdd, and_true, true_and, ↓z_exD_all, ↓z_exD_eq, ↓z_drw_buildSlice, ↓z_mpO_cons, Nat.reduceEqDiff, ↓z_mpO_nil, ↓z_ap_app, ↓z_or_buildSlice, ↓z_buildSlice, ↓y_ty82, ↓z_slTy, ↓y_sz9, Nat.mul_one, Nat.reduceLeDiff, maxLen_lit, ↓y_zr9, List.length_cons, List.length_nil, Nat.zero_add, ↓z_repL_s, ↓z_repL_0, ↓z_cat_nil_r, ↓catW_cons, ↓catW_nil, ↓z_bld_cons, ↓z_cl_str, ↓spsW_cons, ↓drW_cons, reduceCtorEq, Nat.reduceSub, ↓drW_nil, ↓z_bld_nil, ↓z_allP_cons, ↓z_isP_str, ↓z_allP_nil, and_self, ↓z_drw_callv, ↓z_rd_func, ↓z_rd_const]); (try simp only [Int.toNat_natCast, Nat.mul_one, Bool.or_false, Bool.false_or, Bool.or_self, Bool.or_true])
    refine ex_mk (.agg ((digF acc (qs.take (i + 1))).map bD)) (fun E => by
      (simp -dsimp only [↓z_ap_cons, ↓z_ap_nil, ↓z_callv, ↓evW_func, ↓z_evL_cons, ↓evW_const, ↓constW_int, inR_i64, Int.reduceNeg, Int.reduceLE, and_self, ↓evW_tmp, ↓lkW_cons, ↓reduceIte, ↓z_evL_nil, ↓z_fun0, ↓z_coeL_cons, ↓z_coe_int, ↓z_coe_slx, ↓z_coeL_nil, true_and]); (try simp only [Int.toNat_natCast, Nat.mul_one, Bool.or_false, Bool.false_or, Bool.or_self, Bool.or_true])
      rw [hk]
      exact call_fn (hO2.weak (.cons (.refl _) (.cons (.slx ..) .nil))) fun _ => ⟨rfl, rfl⟩) ?_
    (simp -dsimp only [↓z_put, Nat.reduceLT, ↓z_drwK, ↓z_drw_store, ↓z_ops_plain, ↓z_store, ↓evW_tmp, ↓lkW_cons, Nat.reduceEqDiff, ↓reduceIte, ↓y_sz40, ↓z_cl_agg, List.length_map, l2, ↓z_store_ptr, ↓lkoW_cons, Nat.zero_add, hdl, Nat.reduceLeDiff, ↓z_sps_map, ↓z_so_cons, ↓z_put_none, ↓z_ops_nil, ↓z_blk_nrm, ↓z_seq_nrm, ↓z_region, ↓z_binOp, ↓evW_const, ↓constW_int, inR_i64, Int.reduceNeg, Int.reduceLE, and_self, ↓z_bn_add, ↓wrW_i64, ↓z_move, ↓z_lp_nrm, ↓z_wk, ↓z_wkE_cons, D.int.injEq, true_and, ↓z_wkE_nil, and_true, ↓z_wkO_cons, List.take_zero, List.nil_append, ↓z_wkO_nil]); (try simp only [Int.toNat_natCast, Nat.mul_one, Bool.or_false, Bool.false_or, Bool.or_self, Bool.or_true])
    exact ⟨by omega, i + 1, by omega, by omega, by omega, by rw [List.drop_of_length_le (by omega), List.append_nil]⟩
  · have hlt : ((i : Int) < (n.toNat : Int)) = False := eq_false (by omega)
    (simp -dsimp only [↓z_seq, ↓z_region, ↓z_ops_plain, ↓z_binOp, ↓evW_tmp, ↓lkW_cons, ↓reduceIte, Nat.reduceEqDiff, ↓z_bn_lss, ↓z_put, Nat.reduceLT, ↓z_ops_nil, ↓z_seq_nrm, ↓z_cond, ↓z_cnd, ↓z_gdt, hlt, ↓z_exit, ↓z_seq_ext, ↓z_lp_ext, ↓z_blk_ext, ↓z_load, ↓y_ty40, ↓y_sz40, ↓z_agTy_arr, ↓loadW_ptr, ↓lkoW_cons, ↓z_rd_t, Nat.zero_add, List.length_map, hdl, Nat.reduceLeDiff, ↓z_sub_map, ↓z_store, ↓z_cl_oag, List.drop_zero, List.length_take, ↓z_store_ptr, ↓z_sps_map, ↓z_so_cons, ↓z_put_none, ↓z_assign, ↓evW_const, ↓constW_int, inR_i64, Int.reduceNeg, Int.reduceLE, and_self, ↓z_ret, ↓z_end_rt, resLW, res1W, List.take_zero, List.nil_append, ↓z_coeL_cons, ↓z_coeL_nil, ↓z_pack2, D.tup.injEq, List.cons.injEq, and_true, ↓z_coe_int, List.length_append, List.length_drop, ↓z_coe_oag, ↓z_coeC_bytes, D.agg.injEq, true_and]); (try simp only [Int.toNat_natCast, Nat.mul_one, Bool.or_false, Bool.false_or, Bool.or_self, Bool.or_true])
    have e : qs.take i = qs := List.take_of_length_le (by omega)
    have hql' := digF_len acc qs
    rw [e] at hdl ⊢
    refine ⟨by simp, by simp, by simp, ?_⟩
    rw [List.take_of_length_le (show (digF acc qs).length ≤ 16 by omega), show List.drop 16 (List.replicate 16 (0 : UInt8)) = [] from rfl, List.append_nil, List.take_of_length_le (show (digF acc qs).length ≤ 16 by omega)]
set_option maxRecDepth 100000 in
set_option maxHeartbeats 8000000 in
theorem fn_refDigest (acc : Int) (ps : List Po) (n : Int) : Fn GK Tryd.prog 14 [.agg (bkC acc ps), .int .i64 n] (.agg ((dgD acc ps n).map bD ++ [.int .i64 (dgE acc ps n)])) := by
  have hC := fn_refCheck GK acc ps
  unfold bkC at hC ⊢
  refine Fn.mk (c := _) Tryd.func14 rfl rfl Tryd.ntmps14 Tryd.results14 ?_
  (simp -dsimp only [bodyW, List.length_cons, List.length_nil, Nat.zero_add, Nat.reduceAdd, Nat.reduceLeDiff, wfL, ↓z_seq, ↓z_region, ↓z_ops_plain, ↓z_box, ↓evW_tmp, ↓z_lk_env, ↓reduceIte, ↓z_cl_agg, ↓z_nmC_cons, ↓z_mn'_int, ↓z_mn'_sl, ↓z_nmC_nil, and_self, ↓z_new, ↓z_nm_nil, Nat.reduceLT, ↓z_pg_env, ↓z_mn_agg, ↓z_mn_int, ↓z_pg_env0, ↓z_put, ↓z_alloc, ↓y_zr44, ↓z_nm_cons, ↓z_pg_cons, ↓z_mn_ptr, reduceCtorEq, ↓z_pg_nil, ↓z_ops_nil, ↓z_seq_nrm, ↓z_load, ↓lkW_cons, Nat.reduceEqDiff, ↓y_ty24, ↓y_sz24, ↓z_agTy_st, ↓loadW_ptr, ↓lkoW_cons, ↓z_rd_t, ↓z_sub_c, ↓z_sub_nil, ↓z_callv, ↓evW_func, ↓z_evL_cons, ↓z_evL_nil, ↓z_fun0, ↓z_coeL_cons, ↓z_coe_oag, ↓z_coeC_cons, ↓z_coeS_int, ↓z_coeS_sl, ↓z_coeC_nil, ↓z_coeL_nil, true_and])
  intro hd _
  refine call_fnL hC rfl fun _ => ?_
  (simp -dsimp only [↓z_put, Nat.reduceLT, ↓z_ops_plain, ↓z_assign, ↓evW_tmp, ↓lkW_cons, ↓reduceIte, ↓z_ops_nil, ↓z_seq_nrm, ↓z_seq, ↓z_region, ↓z_move, ↓z_binOp, ↓evW_const, ↓constW_int, inR_i64, Int.reduceNeg, Int.reduceLE, and_self, ↓z_bn_neq, ↓z_cond, ↓z_cnd, ↓z_gdt, ne_eq, Nat.reduceEqDiff, ↓z_build, ↓y_ty44, ↓z_blTy_st, ↓y_zr44, ↓z_bld_cons, ↓y_fl44x1, ↓y_sz28, ↓z_cl_int, List.length_cons, List.length_nil, Nat.zero_add, Nat.reduceAdd, Nat.reduceLeDiff, ↓spsW_cons, reduceCtorEq, Nat.reduceSub, ↓drW_cons, ↓drW_nil, ↓z_cat_nil_r, ↓z_bld_nil, ↓z_store, ↓y_sz44, ↓z_cl_oag, ↓z_store_ptr, ↓lkoW_cons, ↓z_so_cons, ↓z_put_none, ↓z_ret, ↓z_seq_rt, ↓z_end_rt, resLW, res1W, ↓z_agTy_st, ↓z_coeL_cons, ↓z_coeL_nil, ↓z_pack1, ↓loadW_ptr, ↓z_rd_t, ↓z_sub_c, ↓z_sub_nil, ↓z_coe_oag, ↓z_coeC_cons, ↓z_coeS_int, ↓z_coeC_nil, D.agg.injEq, true_and, ↓z_skip, ↓z_bn_lss, ↓z_ops_guard, ↓z_grd, ↓z_dst_s, ↓z_dst_0, ↓z_grdD_b, ↓z_gdf, ↓z_gnf, ↓z_gft, ↓z_pick, ↓z_pick_b, ↓z_gnt, ↓z_gff, ↓constW_bool, ↓z_gtt, Bool.not_false, ↓z_fieldAddr, ↓y_fl24x1, ↓y_sz22, not_false_eq_true, ↓z_fa_ptr, ↓z_load, ↓y_ty22, ↓z_agTy_sl, ↓z_rd_f, ↓nthW_cons, ↓z_callb, ↓z_evL_cons, ↓z_evL_nil, ↓z_len, ↓z_ln_sl, ↓z_bn_gtr, ↓y_fl24x0, ↓y_sz3, ↓y_ty3, ↓z_agTy_int, ↓z_callv, ↓evW_func, ↓z_fun0, ↓z_coe_int, z_ite, Classical.not_not])
  refine ⟨fun c0 => ?_, fun c0 => ?_⟩
  · have e : dgE acc ps n = chkB acc ps := if_neg c0
    unfold dgD
    rw [e, if_neg c0]
    exact ⟨by rfl, rfl⟩
  have hb := chkB_ok c0
  have hlen := hb.len
  have no : n < 0 ∨ ps.length < n → dgE acc ps n = 1 ∧ dgD acc ps n = List.replicate 16 0 := fun h => by
    have e : dgE acc ps n = 1 := by unfold dgE; rw [if_pos c0, if_pos h]
    exact ⟨e, by unfold dgD; rw [e]; rfl⟩
  refine ⟨fun g => ?_, fun g => ⟨fun g2 => ?_, fun g2 => ?_⟩⟩
  · obtain ⟨e1, e2⟩ := no (.inl g)
    rw [e1, e2]
    exact ⟨by rfl, rfl⟩
  · obtain ⟨e1, e2⟩ := no (.inr g2)
    rw [e1, e2]
    exact ⟨by rfl, rfl⟩
  have e1 : dgE acc ps n = 0 := by unfold dgE; rw [if_pos c0, if_neg (by omega)]
  have e2 : dgD acc ps n = digF acc (ps.take n.toNat) := by unfold dgD; rw [if_pos e1]
  rw [e1, e2]
  refine call_own (fn_refInt GK acc) fun _ => ?_
  (simp -dsimp only [↓z_new, ↓z_nm_cons, ↓z_nmC_cons, ↓z_mn'_int, ↓z_nmC_nil, and_self, ↓z_mn'_sl, ↓z_nm_nil, Nat.zero_add, Nat.reduceAdd, Nat.reduceLT, ↓z_pg_cons, ↓z_mn_int, ↓z_mn_ptr, reduceCtorEq, ↓reduceIte, ↓z_mn_bool, ↓z_mn_sl, ↓z_mn_oag, ↓z_mnL_int, ↓z_mnL_sl, ↓z_mnL_nil, Nat.reduceEqDiff, ↓z_mn_agg, ↓z_pg_nil, ↓z_put, ↓z_ops_plain, ↓z_convert, ↓evW_tmp, ↓lkW_cons, ↓y_ty78, ↓y_ty9, ↓z_cvt_bs, ↓y_ty5, ↓z_u8, ↓z_cv_bs_osl, ↓z_src_osl, ↓lkoW_cons, ↓z_allP_bytes, List.length_map, Nat.mul_one, ↓bsW_map, ↓z_buildSlice, ↓y_ty82, ↓z_slTy, ↓y_sz9, Nat.reduceLeDiff, maxLen_lit, ↓y_zr9, List.length_cons, List.length_nil, ↓z_repL_s, ↓z_repL_0, ↓z_cat_nil_r, ↓z_bld_cons, ↓z_cl_str, ↓spsW_cons, ↓drW_cons, ↓drW_nil, ↓z_bld_nil, ↓z_allP_cons, ↓z_isP_str, ↓z_allP_nil, ↓z_callv, ↓evW_func, ↓z_evL_cons, ↓evW_const, ↓constW_int, inR_i64, Int.reduceNeg, Int.reduceLE, ↓z_evL_nil, ↓z_fun0, ↓z_coeL_cons, ↓z_coe_int, ↓z_coe_slx, ↓z_coeL_nil, true_and])
  obtain ⟨q1, q2⟩ := enc_parts1 hb.a1 hb.a2
  have hO := fn_rOf 204 [encI acc] q1 q2
  have l16 := ofD_len 204 [encI acc]
  refine call_fnL (hO.weak (.cons (.refl _) (.cons (.slx ..) .nil))) (flS_bytes _) fun _ => ?_
  (simp -dsimp only [↓z_put, Nat.reduceLT, ↓z_ops_plain, ↓z_alloc, ↓y_zr40, ↓z_new, ↓z_nm_cons, ↓z_nmC_bytes, ↓z_nmC_cons, ↓z_mn'_int, ↓z_nmC_nil, and_self, ↓z_mn'_sl, ↓z_nm_nil, Nat.zero_add, Nat.reduceAdd, ↓z_pg_cons, ↓z_mn_agg, ↓z_mn_slx, ↓z_mn_str, ↓z_mn_osl, Nat.reduceEqDiff, ↓reduceIte, ↓z_mn_int, ↓z_mn_ptr, reduceCtorEq, ↓z_mn_bool, ↓z_mn_sl, ↓z_mn_oag, ↓z_mnL_int, ↓z_mnL_sl, ↓z_mnL_nil, ↓z_pg_nil, ↓z_store, ↓evW_tmp, ↓lkW_cons, ↓y_sz40, ↓z_cl_agg, List.length_map, ↓z_store_ptr, ↓lkoW_cons, List.length_cons, List.length_nil, Nat.reduceLeDiff, ↓spsW_cons, ↓drW_cons, Nat.reduceSub, ↓drW_nil, ↓z_cat_nil_r, ↓z_so_cons, ↓z_put_none, ↓z_ops_nil, ↓z_seq_nrm, ↓z_seq, ↓z_region, ↓z_assign, ↓evW_const, ↓constW_int, inR_i64, Int.reduceNeg, Int.reduceLE, ↓z_block, ↓z_loop, true_and])
  refine ⟨l16, hold_intro ⟨[], Nat, fun i => ⟨62, 4, [(7, .int .i64 i), (1, .int .i64 n), (2, .ptr 0 0), (6, .ptr 3 0), (4, .ptr 1 0)], [(3, (digF acc (ps.take i)).map bD), (1, (List.replicate 16 (0 : UInt8)).map bD ++ [.int .i64 0]), (0, [.int .i64 acc, .sl 6 ps.length (List.flatMap poC ps)])]⟩, fun i => i ≤ n.toNat, fun i => n.toNat - i, ?_, ?_⟩⟩
  · (simp -dsimp only [↓z_ad_nil, ↓z_wk, ↓z_wkE_cons, ↓lkW_cons, ↓reduceIte, D.int.injEq, true_and, Nat.reduceEqDiff, reduceCtorEq, Nat.zero_add, Nat.reduceAdd, ↓z_wkE_nil, and_self, and_true, ↓z_wkO_cons, ↓lkoW_cons, ↓z_wkO_nil]); (try simp only [Int.toNat_natCast, Nat.mul_one, Bool.or_false, Bool.false_or, Bool.or_self, Bool.or_true])
    exact ⟨0, by omega, rfl, rfl, rfl⟩
  intro i hi
  have hdl := digF_len acc (ps.take i)
  have tk := dg_tk hdl
  have hk : List.take 16 (digF acc (ps.take i)) = digF acc (ps.take i) := List.take_of_length_le (by omega)
  by_cases h : i < n.toNat
  · have h' : i < ps.length := by omega
    have hl2 := po_len ps
    have hsub := fun k => po_sub h' k
    have hlt : ((i : Int) < n) = True := eq_true (by omega)
    have hlt2 : ((i : Int) < (ps.length : Int)) = True := eq_true (by omega)
    have hok := hb.ok _ (List.getElem_mem h')
    obtain ⟨p1, p2⟩ := poI_enc hok hb.a2
    have hI := fn_refInts GK (poI ps[i]) (by simp [poI]) fun x hx => Nat.le_trans (p1 x hx) (by omega)
    obtain ⟨r1, r2⟩ := enc_parts2 hdl p2
    have hO2 := fn_rOf 205 [digF acc (ps.take i), encL encI (poI ps[i])] r1 r2
    have hs := digF_s (acc := acc) h'
    have l2 := digF_len acc (ps.take (i + 1))
    rw [← hs] at hO2
    (simp -dsimp only [↓z_seq, ↓z_region, ↓z_ops_plain, ↓z_move, ↓evW_tmp, ↓lkW_cons, ↓reduceIte, ↓z_put, Nat.reduceLT, Nat.reduceEqDiff, ↓z_binOp, ↓z_bn_lss, ↓z_ops_nil, ↓z_seq_nrm, ↓z_cond, ↓z_cnd, ↓z_gdt, hlt, ↓z_skip, ↓z_block, ↓z_fieldAddr, ↓y_fl24x1, ↓y_sz22, ne_eq, reduceCtorEq, not_false_eq_true, ↓z_fa_ptr, ↓z_load, ↓y_ty22, ↓z_agTy_sl, ↓loadW_ptr, ↓lkoW_cons, ↓z_rd_f, ↓nthW_cons, Nat.zero_add, Nat.reduceSub, ↓z_indexAddr, ↓z_elTy_sl, ↓y_sz26, ↓z_ix_sl, hlt2, ↓y_ty26, ↓z_agTy_st, ↓loadW_rop, ↓z_rd_t, hl2, ↓hsub, ↓z_alloc, ↓y_zr26, ↓z_new, ↓z_nm_cons, ↓z_nmC_bytes, ↓z_nmC_app, ↓z_nmC_cons, ↓z_mn'_int, ↓z_nmC_nil, and_self, ↓z_mn'_sl, ↓z_nm_nil, ↓z_pg_cons, ↓z_mn_agg, ↓z_mn_rop, ↓z_mn_int, ↓z_mn_sl, ↓z_mn_ptr, ↓z_mn_bool, ↓z_pg_nil, ↓z_store, ↓z_cl_agg, List.length_cons, List.length_nil, Nat.reduceAdd, ↓z_store_ptr, Nat.reduceLeDiff, ↓spsW_cons, ↓drW_cons, ↓drW_nil, ↓z_cat_nil_r, ↓z_so_cons, ↓z_put_none, ↓z_region_d, ↓y_mix, true_and]); (try simp only [Int.toNat_natCast])
    refine ⟨by omega, by omega, rgn_d (by decide +kernel) ?_⟩
    (simp -dsimp only [↓z_drw_load, ↓z_drwS, ↓z_grd_none, ↓z_withE, ↓z_rd_tmp, ↓lkW_cons, Nat.reduceEqDiff, ↓reduceIte, ↓z_rd_nil, ↓z_ap_cons, ↓z_ap_nil, ↓z_or_load, ↓z_load, ↓evW_tmp, ↓y_ty40, ↓y_sz40, ↓z_agTy_arr, ↓loadW_ptr, ↓lkoW_cons, ↓z_rd_t, Nat.zero_add, List.length_map, hdl, Nat.reduceLeDiff, ↓z_sub_map, List.drop_zero, Nat.reduceAdd, and_true, true_and, ↓z_exD_all, ↓z_exD_eq, ↓z_put, Nat.reduceLT, ↓z_drwK, ↓z_drw_callv, ↓z_rd_func]); (try simp only [Int.toNat_natCast, Nat.mul_one, Bool.or_false, Bool.false_or, Bool.or_self, Bool.or_true])
    refine ex_mk (.str (digF acc (ps.take i))) (fun E => by
      (simp -dsimp only [↓z_ap_cons, ↓z_ap_nil, ↓z_callv, ↓evW_func, ↓z_evL_cons, ↓evW_tmp, ↓lkW_cons, ↓reduceIte, ↓z_evL_nil, ↓z_fun0, ↓z_coeL_cons, ↓z_coe_oag, ↓z_coeC_bytes, ↓z_coeL_nil]); (try simp only [Int.toNat_natCast, Nat.mul_one, Bool.or_false, Bool.false_or, Bool.or_self, Bool.or_true])
      rw [hk]
      exact call_fn (fn_Text GK _ hdl) fun _ => ⟨rfl, rfl⟩) ?_
    (simp -dsimp only [↓z_put, Nat.reduceLT, ↓z_drwK, ↓z_drw_fieldAddr, ↓z_drwS, ↓z_grd_none, ↓z_withE, ↓z_rd_tmp, ↓lkW_cons, Nat.reduceEqDiff, ↓reduceIte, ↓z_rd_nil, ↓z_ap_cons, ↓z_ap_nil, ↓z_or_fieldAddr, ↓z_fieldAddr, ↓evW_tmp, ↓y_fl26x0, ↓y_sz3, ne_eq, reduceCtorEq, not_false_eq_true, ↓z_fa_ptr, Nat.zero_add, Nat.reduceAdd, and_true, true_and, ↓z_exD_all, ↓z_exD_eq, ↓z_drw_load, ↓z_or_load, ↓z_load, ↓y_ty3, ↓z_agTy_int, ↓loadW_ptr, ↓lkoW_cons, ↓z_rd_f, ↓nthW_cons, ↓y_fl26x1, Nat.reduceSub, ↓y_fl26x2, ↓y_fl26x3, ↓y_fl26x4, ↓y_fl26x5, ↓z_drw_buildSlice, ↓z_mpO_cons, ↓z_mpO_nil, ↓z_ap_app, ↓z_or_buildSlice, ↓z_buildSlice, ↓y_ty54, ↓z_slTy, Nat.mul_one, Nat.reduceLeDiff, maxLen_lit, ↓y_zr3, List.length_cons, List.length_nil, ↓z_repL_s, ↓z_repL_0, ↓z_cat_nil_r, ↓catW_cons, ↓catW_nil, ↓z_bld_cons, ↓z_cl_int, ↓spsW_cons, ↓drW_cons, ↓drW_nil, ↓z_bld_nil, ↓z_allP_cons, ↓z_isP_int, ↓z_allP_nil, and_self, ↓z_drw_callv, ↓z_rd_func]); (try simp only [Int.toNat_natCast, Nat.mul_one, Bool.or_false, Bool.false_or, Bool.or_self, Bool.or_true])
    refine ex_mk (.sl 1 (encL encI (poI ps[i])).length ((encL encI (poI ps[i])).map bD)) (fun E => by
      (simp -dsimp only [↓z_ap_cons, ↓z_ap_nil, ↓z_callv, ↓evW_func, ↓z_evL_cons, ↓evW_tmp, ↓lkW_cons, ↓reduceIte, ↓z_evL_nil, ↓z_fun0, ↓z_coeL_cons, ↓z_coe_slx, ↓z_coeL_nil]); (try simp only [Int.toNat_natCast, Nat.mul_one, Bool.or_false, Bool.false_or, Bool.or_self, Bool.or_true])
      exact call_fn ((hI.fn.inp rfl).weak (.cons (.slx ..) .nil)) fun _ => ⟨rfl, rfl⟩) ?_
    (simp -dsimp only [↓z_put, Nat.reduceLT, ↓z_drwK, ↓z_drw_convert, ↓z_drwS, ↓z_grd_none, ↓z_withE, ↓z_rd_tmp, ↓lkW_cons, ↓reduceIte, ↓z_rd_nil, ↓z_ap_cons, ↓z_ap_nil, ↓z_or_convert, ↓y_ty78, ↓y_ty9, ↓z_cvR_sl, ↓z_convert, ↓evW_tmp, ↓z_cvt_bs, ↓y_ty5, ↓z_u8, ↓z_cv_bs_sl, ↓bsW_map, Nat.reduceAdd, and_true, true_and, ↓z_exD_all, ↓z_exD_eq, ↓z_drw_buildSlice, ↓z_mpO_cons, Nat.reduceEqDiff, ↓z_mpO_nil, ↓z_ap_app, ↓z_or_buildSlice, ↓z_buildSlice, ↓y_ty82, ↓z_slTy, ↓y_sz9, Nat.mul_one, Nat.reduceLeDiff, maxLen_lit, ↓y_zr9, List.length_cons, List.length_nil, Nat.zero_add, ↓z_repL_s, ↓z_repL_0, ↓z_cat_nil_r, ↓catW_cons, ↓catW_nil, ↓z_bld_cons, ↓z_cl_str, ↓spsW_cons, ↓drW_cons, reduceCtorEq, Nat.reduceSub, ↓drW_nil, ↓z_bld_nil, ↓z_allP_cons, ↓z_isP_str, ↓z_allP_nil, and_self, ↓z_drw_callv, ↓z_rd_func, ↓z_rd_const]); (try simp only [Int.toNat_natCast, Nat.mul_one, Bool.or_false, Bool.false_or, Bool.or_self, Bool.or_true])
    refine ex_mk (.agg ((digF acc (ps.take (i + 1))).map bD)) (fun E => by
      (simp -dsimp only [↓z_ap_cons, ↓z_ap_nil, ↓z_callv, ↓evW_func, ↓z_evL_cons, ↓evW_const, ↓constW_int, inR_i64, Int.reduceNeg, Int.reduceLE, and_self, ↓evW_tmp, ↓lkW_cons, ↓reduceIte, ↓z_evL_nil, ↓z_fun0, ↓z_coeL_cons, ↓z_coe_int, ↓z_coe_slx, ↓z_coeL_nil, true_and]); (try simp only [Int.toNat_natCast, Nat.mul_one, Bool.or_false, Bool.false_or, Bool.or_self, Bool.or_true])
      exact call_fn (hO2.weak (.cons (.refl _) (.cons (.slx ..) .nil))) fun _ => ⟨rfl, rfl⟩) ?_
    (simp -dsimp only [↓z_put, Nat.reduceLT, ↓z_drwK, ↓z_drw_store, ↓z_ops_plain, ↓z_store, ↓evW_tmp, ↓lkW_cons, Nat.reduceEqDiff, ↓reduceIte, ↓y_sz40, ↓z_cl_agg, List.length_map, l2, ↓z_store_ptr, ↓lkoW_cons, Nat.zero_add, hdl, Nat.reduceLeDiff, ↓z_sps_map, ↓z_so_cons, ↓z_put_none, ↓z_ops_nil, ↓z_blk_nrm, ↓z_seq_nrm, ↓z_region, ↓z_move, ↓z_binOp, ↓evW_const, ↓constW_int, inR_i64, Int.reduceNeg, Int.reduceLE, and_self, ↓z_bn_add, ↓wrW_i64, ↓z_assign, ↓z_lp_nrm, ↓z_wk, ↓z_wkE_cons, D.int.injEq, true_and, ↓z_wkE_nil, and_true, ↓z_wkO_cons, List.take_zero, List.nil_append, reduceCtorEq, ↓z_wkO_nil]); (try simp only [Int.toNat_natCast, Nat.mul_one, Bool.or_false, Bool.false_or, Bool.or_self, Bool.or_true])
    exact ⟨by omega, i + 1, by omega, by omega, by omega, by rw [List.drop_of_length_le (by omega), List.append_nil]⟩
  · have hlt : ((i : Int) < n) = False := eq_false (by omega)
    (simp -dsimp only [↓z_seq, ↓z_region, ↓z_ops_plain, ↓z_move, ↓evW_tmp, ↓lkW_cons, ↓reduceIte, ↓z_put, Nat.reduceLT, Nat.reduceEqDiff, ↓z_binOp, ↓z_bn_lss, ↓z_ops_nil, ↓z_seq_nrm, ↓z_cond, ↓z_cnd, ↓z_gdt, hlt, ↓z_exit, ↓z_seq_ext, ↓z_lp_ext, ↓z_blk_ext, ↓z_load, ↓y_ty40, ↓y_sz40, ↓z_agTy_arr, ↓loadW_ptr, ↓lkoW_cons, ↓z_rd_t, Nat.zero_add, List.length_map, hdl, Nat.reduceLeDiff, ↓z_sub_map, ↓z_build, ↓y_ty44, ↓z_blTy_st, ↓y_zr44, ↓z_bld_cons, ↓y_fl44x0, ↓z_cl_oag, List.drop_zero, List.length_take, List.length_cons, List.length_nil, Nat.reduceAdd, ↓spsW_cons, ↓drW_cons, reduceCtorEq, Nat.reduceSub, ↓catW_map, ↓z_bld_nil, ↓z_store, ↓y_sz44, List.length_append, ↓z_store_ptr, ↓z_so_cons, ↓z_put_none, ↓z_ret, ↓z_end_rt, resLW, res1W, ↓z_agTy_st, ↓z_coeL_cons, ↓z_coeL_nil, ↓z_pack1, ↓z_coe_oag, D.agg.injEq, z_sub, z_sps, List.take_zero, List.nil_append, List.length_drop, true_and]); (try simp only [Int.toNat_natCast, Nat.mul_one, Bool.or_false, Bool.false_or, Bool.or_self, Bool.or_true])
    have e : i = n.toNat := by omega
    rw [hk]
    refine ⟨by rfl, by omega, by omega, by simp, by simp, ?_⟩
    have e3 : List.take 17 ((digF acc (ps.take i)).map bD ++ [.int .i64 0] ++ List.drop 17 ((List.replicate 16 (0 : UInt8)).map bD ++ [.int .i64 0])) = (digF acc (ps.take i)).map bD ++ [.int .i64 0] := by
      rw [show List.drop 17 ((List.replicate 16 (0 : UInt8)).map bD ++ [D.int .i64 0]) = [] from rfl, List.append_nil, List.take_of_length_le (by simp [hdl])]
    rw [e3, coe_fl _ (fun c hc => by
      rcases List.mem_append.1 hc with h | h
      · obtain ⟨_, _, rfl⟩ := List.mem_map.1 h; rfl
      · simp at h; subst h; rfl), e]
end Go.Abs

