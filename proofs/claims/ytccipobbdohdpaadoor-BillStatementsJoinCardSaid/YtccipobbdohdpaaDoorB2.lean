/-
  BILL, first walks: the errors of a book.
-/
import Derived.Test.YtccipobbdohdpaaDoorB1
namespace Go.Abs
open Go.Proofs
theorem fm_len {α : Type} {f : α → List D} {m : Nat} (hf : ∀ x, (f x).length = m) : ∀ l : List α, (List.flatMap f l).length = l.length * m
  | [] => by simp
  | x :: r => by rw [List.flatMap_cons, List.length_append, hf, fm_len hf r, List.length_cons, Nat.add_mul]; omega
theorem fm_at {α : Type} {f : α → List D} {m : Nat} (hf : ∀ x, (f x).length = m) : ∀ {l : List α} {j : Nat} (h : j < l.length), ((List.flatMap f l).drop (j * m)).take m = f l[j]
  | x :: r, 0, h => by simp [List.flatMap_cons, hf]
  | x :: r, j + 1, h => by
    have e : (j + 1) * m = (f x).length + j * m := by rw [hf, Nat.add_mul]; omega
    rw [List.flatMap_cons, e, List.drop_length_add_append]
    exact fm_at hf (l := r) (by simpa using h)
theorem fm_get {α : Type} {f : α → List D} {m : Nat} (hf : ∀ x, (f x).length = m) {l : List α} {j c : Nat} (h : j < l.length) (hc : c < m) : (List.flatMap f l)[j * m + c]? = (f l[j])[c]? := by
  have h1 := fm_at hf h
  rw [← h1, List.getElem?_take_of_lt hc, List.getElem?_drop]
theorem fm_take {α : Type} {f : α → List D} {m : Nat} (hf : ∀ x, (f x).length = m) : ∀ {l : List α} {j : Nat}, (List.flatMap f l).take (j * m) = List.flatMap f (l.take j)
  | [], j => by simp
  | x :: r, 0 => by simp
  | x :: r, j + 1 => by
    have e : (j + 1) * m = (f x).length + j * m := by rw [hf, Nat.add_mul]; omega
    rw [List.flatMap_cons, List.take_succ_cons, List.flatMap_cons, e, List.take_length_add_append, fm_take hf]
theorem fm_nth {α : Type} {f : α → List D} {m : Nat} (hf : ∀ x, (f x).length = m) (l : List α) (j c : Nat) (hc : c < m) (g : α → D) (hg : ∀ x, (f x)[c]? = some (g x)) (k : D → Prop) : nthW (List.flatMap f l) (j * m + c) k = ∃ h : j < l.length, k (g l[j]) := by
  by_cases h : j < l.length
  · rw [nthW_iff ((fm_get hf h hc).trans (hg _))]; simp [h]
  · rw [nthW_none (by
      rw [List.getElem?_eq_none_iff, fm_len hf]
      have : l.length * m ≤ j * m := Nat.mul_le_mul_right m (by omega)
      omega)]; simp [h]
theorem po_len1 (p : Po) : (poC p).length = 6 := rfl
theorem po_len (ps : List Po) : (List.flatMap poC ps).length = ps.length * 6 := fm_len po_len1 ps
theorem po_at {ps : List Po} {j : Nat} (h : j < ps.length) : ((List.flatMap poC ps).drop (j * 6)).take 6 = [.int .i64 ps[j].d, .int .i64 ps[j].c, .int .i64 ps[j].a, .int .i64 ps[j].t, .int .i64 ps[j].w, .int .i64 ps[j].r] := fm_at po_len1 h
theorem po_flS (r : List Po) : ∀ c ∈ List.flatMap poC r, flS c = true := by
  intro c hc
  obtain ⟨x, _, hx⟩ := List.mem_flatMap.1 hc
  simp only [poC, List.mem_cons, List.not_mem_nil, or_false] at hx
  rcases hx with rfl | rfl | rfl | rfl | rfl | rfl <;> rfl
theorem po_frC (r : List Po) : frC (List.flatMap poC r) = True := eq_true (po_flS r)
theorem po_allP (r : List Po) : allP (List.flatMap poC r) = True := eq_true fun c hc => flS_isP (po_flS r c hc)
theorem po_nmC (id : Nat) (r : List Po) : nmC id (List.flatMap poC r) = True := eq_true fun c hc => by
  have := po_flS r c hc
  cases c <;> first | rfl | (simp [flS] at this)
theorem po_nmRL (a : Nat) (r : List Po) : nmRL a (List.flatMap poC r) = True := eq_true fun c hc => nmR_P (flS_isP (po_flS r c hc))
theorem nth_po3 (ps : List Po) (j : Nat) (k : D → Prop) : nthW (List.flatMap poC ps) (j * 6 + 3) k = ∃ h : j < ps.length, k (.int .i64 ps[j].t) := fm_nth po_len1 ps j 3 (by decide) (fun p => .int .i64 p.t) (fun _ => rfl) k
theorem po_sub {ps : List Po} {j : Nat} (h : j < ps.length) (k : List D → Prop) : subW (List.flatMap poC ps) ((j : Int).toNat * 6) 6 k = k [.int .i64 ps[j].d, .int .i64 ps[j].c, .int .i64 ps[j].a, .int .i64 ps[j].t, .int .i64 ps[j].w, .int .i64 ps[j].r] := by
  unfold subW; rw [Int.toNat_natCast, po_at h]
theorem fn_account (G : Glob) (acc n : Int) (ps : List Po) : Fn G Tryd.prog 38 [.agg (bkC acc ps), .int .i64 n] (.bool (decide (0 ≤ n ∧ n < acc))) := by
  unfold bkC
  refine Fn.mk (c := _) Tryd.func38 rfl rfl Tryd.ntmps38 Tryd.results38 ?_
  (simp -dsimp only [bodyW, List.length_cons, List.length_nil, Nat.zero_add, Nat.reduceAdd, Nat.reduceLeDiff, wfL, ↓z_seq, ↓z_region, ↓z_ops_plain, ↓z_box, ↓evW_tmp, ↓z_lk_env, ↓reduceIte, ↓z_cl_agg, ↓z_nmC_cons, ↓z_mn'_int, ↓z_mn'_sl, ↓z_nmC_nil, and_self, ↓z_new, ↓z_nm_nil, Nat.reduceLT, ↓z_pg_env, ↓z_mn_agg, ↓z_mn_int, ↓z_pg_env0, ↓z_put, ↓z_assign, ↓evW_const, ↓constW_bool, ↓z_ops_nil, ↓z_seq_nrm, ↓z_move, ↓lkW_cons, Nat.reduceEqDiff, reduceCtorEq, ↓z_binOp, ↓constW_int, inR_i64, Int.reduceNeg, Int.reduceLE, ↓z_bn_geq, ↓z_ops_guard, ↓z_grd, ↓z_dst_s, ↓z_dst_0, ↓z_grdD_b, ↓z_gdt, ↓z_gtt, ↓z_fieldAddr, ↓y_fl24x0, ↓y_sz3, ne_eq, not_false_eq_true, ↓z_fa_ptr, ↓z_load, ↓y_ty3, ↓z_agTy_int, ↓loadW_ptr, ↓lkoW_cons, ↓z_rd_f, ↓nthW_cons, ↓z_bn_lss, ↓z_pick, ↓z_pick_b, ↓z_ret, ↓z_end_rt, resLW, res1W, ↓z_coeL_cons, ↓z_coeL_nil, ↓z_pack1, ↓z_coe_bool, D.bool.injEq, true_and, ↓z_gnt, ↓z_gtf, Bool.not_true, z_ite]); (try simp only [Int.toNat_natCast, Nat.mul_one, Bool.or_false, Bool.false_or, Bool.or_self, Bool.or_true])
  intro _ _
  exact ⟨fun h => by rw [decide_eq_decide]; omega, fun h => by symm; rw [decide_eq_false_iff_not]; omega⟩
theorem fn_In (G : Glob) (acc n : Int) (ps : List Po) : Fn G Tryd.prog 41 [.agg (bkC acc ps), .int .i64 n] (.bool (decide (0 ≤ n ∧ n < acc))) := by
  unfold bkC
  refine Fn.mk (c := _) Tryd.func41 rfl rfl Tryd.ntmps41 Tryd.results41 ?_
  (simp -dsimp only [bodyW, List.length_cons, List.length_nil, Nat.zero_add, Nat.reduceAdd, Nat.reduceLeDiff, wfL, ↓z_seq, ↓z_region, ↓z_ops_plain, ↓z_box, ↓evW_tmp, ↓z_lk_env, ↓reduceIte, ↓z_cl_agg, ↓z_nmC_cons, ↓z_mn'_int, ↓z_mn'_sl, ↓z_nmC_nil, and_self, ↓z_new, ↓z_nm_nil, Nat.reduceLT, ↓z_pg_env, ↓z_mn_agg, ↓z_mn_int, ↓z_pg_env0, ↓z_put, ↓z_assign, ↓evW_const, ↓constW_bool, ↓z_ops_nil, ↓z_seq_nrm, ↓z_move, ↓lkW_cons, Nat.reduceEqDiff, reduceCtorEq, ↓z_binOp, ↓constW_int, inR_i64, Int.reduceNeg, Int.reduceLE, ↓z_bn_geq, ↓z_ops_guard, ↓z_grd, ↓z_dst_s, ↓z_dst_0, ↓z_grdD_b, ↓z_gdt, ↓z_gtt, ↓z_fieldAddr, ↓y_fl24x0, ↓y_sz3, ne_eq, not_false_eq_true, ↓z_fa_ptr, ↓z_load, ↓y_ty3, ↓z_agTy_int, ↓loadW_ptr, ↓lkoW_cons, ↓z_rd_f, ↓nthW_cons, ↓z_bn_lss, ↓z_pick, ↓z_pick_b, ↓z_ret, ↓z_end_rt, resLW, res1W, ↓z_coeL_cons, ↓z_coeL_nil, ↓z_pack1, ↓z_coe_bool, D.bool.injEq, true_and, ↓z_gnt, ↓z_gtf, Bool.not_true, z_ite]); (try simp only [Int.toNat_natCast, Nat.mul_one, Bool.or_false, Bool.false_or, Bool.or_self, Bool.or_true])
  intro _ _
  exact ⟨fun h => by rw [decide_eq_decide]; omega, fun h => by symm; rw [decide_eq_false_iff_not]; omega⟩
theorem fn_within (G : Glob) (n a b : Int) : Fn G Tryd.prog 37 [.int .i64 n, .int .i64 a, .int .i64 b] (.bool (decide (a ≤ n ∧ n ≤ b))) := by
  refine Fn.mk (c := _) Tryd.func37 rfl rfl Tryd.ntmps37 Tryd.results37 ?_
  (simp -dsimp only [bodyW, List.length_cons, List.length_nil, Nat.zero_add, Nat.reduceAdd, Nat.reduceLeDiff, wfL, ↓z_seq, ↓z_region, ↓z_ops_plain, ↓z_assign, ↓evW_const, ↓constW_bool, ↓z_put, Nat.reduceLT, ↓z_ops_nil, ↓z_seq_nrm, ↓z_move, ↓evW_tmp, ↓lkW_cons, reduceCtorEq, ↓reduceIte, ↓z_lk_env, Nat.reduceEqDiff, ↓z_binOp, ↓z_bn_geq, ↓z_ops_guard, ↓z_grd, ↓z_dst_s, ↓z_dst_0, ↓z_grdD_b, ↓z_gdt, ↓z_gtt, ↓z_bn_leq, ↓z_pick, ↓z_pick_b, ↓z_ret, ↓z_end_rt, resLW, res1W, ↓z_envF_cons, ↓z_envF_nil, ↓z_coeL_cons, ↓z_coeL_nil, ↓z_pack1, ↓z_coe_bool, D.bool.injEq, true_and, ↓z_gnt, ↓z_gtf, Bool.not_true, z_ite]); (try simp only [Int.toNat_natCast, Nat.mul_one, Bool.or_false, Bool.false_or, Bool.or_self, Bool.or_true])
  intro _ _ _
  exact ⟨fun h => by rw [decide_eq_decide]; omega, fun h => by symm; rw [decide_eq_false_iff_not]; omega⟩
/-- A posting's error, but for its order. -/
def oneE (acc : Int) (p : Po) : Int := if badP acc p then 1 else if outP p then 3 else 0
theorem oneE_or (acc : Int) (p : Po) : (badP acc p ∧ oneE acc p = 1) ∨ (¬ badP acc p ∧ outP p ∧ oneE acc p = 3) ∨ (¬ badP acc p ∧ ¬ outP p ∧ oneE acc p = 0) := by
  unfold oneE
  by_cases h1 : badP acc p
  · exact .inl ⟨h1, if_pos h1⟩
  · by_cases h2 : outP p
    · exact .inr (.inl ⟨h1, h2, by rw [if_neg h1, if_pos h2]⟩)
    · exact .inr (.inr ⟨h1, h2, by rw [if_neg h1, if_neg h2]⟩)
set_option maxRecDepth 100000 in
set_option maxHeartbeats 8000000 in
theorem fn_one (G : Glob) (acc : Int) (ps : List Po) (p : Po) : Fn G Tryd.prog 39 [.agg (bkC acc ps), .agg (poC p)] (.int .i64 (oneE acc p)) := by
  have ho := oneE_or acc p
  unfold badP outP at ho
  revert ho
  generalize oneE acc p = e
  intro ho
  unfold bkC poC
  refine Fn.mk (c := _) Tryd.func39 rfl rfl Tryd.ntmps39 Tryd.results39 ?_
  (simp -dsimp only [bodyW, List.length_cons, List.length_nil, Nat.zero_add, Nat.reduceAdd, Nat.reduceLeDiff, wfL, ↓z_seq, ↓z_region, ↓z_ops_plain, ↓z_box, ↓evW_tmp, ↓z_lk_env, ↓reduceIte, ↓z_cl_agg, ↓z_nmC_cons, ↓z_mn'_int, ↓z_mn'_sl, ↓z_nmC_nil, and_self, ↓z_new, ↓z_nm_nil, Nat.reduceLT, ↓z_pg_env, ↓z_mn_agg, ↓z_pg_env0, ↓z_put, ↓lkW_cons, Nat.reduceEqDiff, reduceCtorEq, ↓z_nm_cons, ↓z_pg_cons, ↓z_mn_ptr, ↓z_pg_nil, ↓z_assign, ↓evW_const, ↓constW_int, inR_i64, Int.reduceNeg, Int.reduceLE, ↓z_ops_nil, ↓z_seq_nrm, ↓z_load, ↓y_ty24, ↓y_sz24, ↓z_agTy_st, ↓loadW_ptr, ↓lkoW_cons, ↓z_rd_t, ↓z_sub_c, ↓z_sub_nil, ↓z_fieldAddr, ↓y_fl26x0, ↓y_sz3, ne_eq, not_false_eq_true, ↓z_fa_ptr, ↓y_ty3, ↓z_agTy_int, ↓z_rd_f, ↓nthW_cons, ↓z_callv, ↓evW_func, ↓z_evL_cons, ↓z_evL_nil, ↓z_fun0, ↓z_coeL_cons, ↓z_coe_oag, ↓z_coeC_cons, ↓z_coeS_int, ↓z_coeS_sl, ↓z_coeC_nil, ↓z_coe_int, ↓z_coeL_nil, true_and])
  intro _ _
  refine call_fn ((fn_In G acc p.d ps).inp rfl) fun _ => ?_
  (simp -dsimp only [↓z_put, Nat.reduceLT, ↓z_ops_plain, ↓z_assign, ↓evW_tmp, ↓lkW_cons, ↓reduceIte, ↓z_ops_nil, ↓z_seq_nrm, ↓z_seq, ↓z_region, ↓z_load, Nat.reduceEqDiff, ↓y_ty24, ↓y_sz24, ↓z_agTy_st, ↓loadW_ptr, ↓lkoW_cons, Nat.zero_add, reduceCtorEq, ↓z_rd_t, List.length_cons, List.length_nil, Nat.reduceAdd, Nat.reduceLeDiff, ↓z_sub_c, ↓z_sub_nil, ↓z_fieldAddr, ↓y_fl26x1, ↓y_sz3, ne_eq, not_false_eq_true, ↓z_fa_ptr, ↓y_ty3, ↓z_agTy_int, ↓z_rd_f, ↓nthW_cons, Nat.reduceSub, ↓z_callv, ↓evW_func, ↓z_evL_cons, ↓z_evL_nil, ↓z_fun0, ↓z_coeL_cons, ↓z_coe_oag, ↓z_coeC_cons, ↓z_coeS_int, ↓z_coeS_sl, ↓z_coeC_nil, ↓z_coe_int, ↓z_coeL_nil, true_and])
  refine call_fn ((fn_In G acc p.c ps).inp rfl) fun _ => ?_
  (simp -dsimp only [↓z_put, Nat.reduceLT, ↓z_ops_plain, ↓z_assign, ↓evW_tmp, ↓lkW_cons, ↓reduceIte, ↓z_ops_nil, ↓z_seq_nrm, ↓z_seq, ↓z_region, ↓z_move, Nat.reduceEqDiff, ↓z_unOp, ↓z_un_not, ↓z_ops_guard, ↓z_grd, ↓z_dst_s, ↓z_dst_0, ↓z_grdD_b, ↓z_gnf, ↓z_gdt, ↓z_gff, ↓z_pick, ↓z_pick_b, ↓z_gft, ↓z_fieldAddr, ↓y_fl26x0, ↓y_sz3, ne_eq, reduceCtorEq, not_false_eq_true, ↓z_fa_ptr, ↓z_load, ↓y_ty3, ↓z_agTy_int, ↓loadW_ptr, ↓lkoW_cons, Nat.zero_add, ↓z_rd_f, ↓nthW_cons, ↓y_fl26x1, Nat.reduceSub, ↓z_binOp, ↓z_bn_eql, ↓z_cond, ↓z_cnd, ↓evW_const, ↓constW_int, inR_i64, Int.reduceNeg, Int.reduceLE, and_self, ↓z_ret, ↓z_seq_rt, ↓z_end_rt, resLW, res1W, ↓z_coeL_cons, Nat.reduceAdd, ↓z_coeL_nil, ↓z_pack1, ↓z_coe_int, D.int.injEq, true_and, ↓z_skip, ↓y_fl26x2, ↓z_bn_lss, ↓z_gdf, ↓z_gnt, ↓constW_bool, ↓z_gtf, ↓z_gtt, Bool.not_false, ↓z_bn_gtr, ↓y_fl26x3, ↓y_fl26x4, ↓y_fl26x5, z_ite]); (try simp only [Int.toNat_natCast, Nat.mul_one, Bool.or_false, Bool.false_or, Bool.or_self, Bool.or_true])
  (repeat' (first | apply And.intro | intro _)) <;> omega
theorem chkS {acc : Int} {ps : List Po} {i : Nat} (h : i < ps.length) : (badP acc ps[i] ∧ chkP acc (lastT ps i) (ps.drop i) = 1) ∨ (¬ badP acc ps[i] ∧ outP ps[i] ∧ chkP acc (lastT ps i) (ps.drop i) = 3) ∨
    (¬ badP acc ps[i] ∧ ¬ outP ps[i] ∧ ps[i].t < lastT ps i ∧ chkP acc (lastT ps i) (ps.drop i) = 15) ∨ (¬ badP acc ps[i] ∧ ¬ outP ps[i] ∧ ¬ ps[i].t < lastT ps i ∧ chkP acc (lastT ps i) (ps.drop i) = chkP acc (lastT ps (i + 1)) (ps.drop (i + 1))) := by
  rw [chkP_s h]
  by_cases h1 : badP acc ps[i]
  · exact .inl ⟨h1, if_pos h1⟩
  · by_cases h2 : outP ps[i]
    · exact .inr (.inl ⟨h1, h2, by rw [if_neg h1, if_pos h2]⟩)
    · by_cases h3 : ps[i].t < lastT ps i
      · exact .inr (.inr (.inl ⟨h1, h2, h3, by rw [if_neg h1, if_neg h2, if_pos h3]⟩))
      · exact .inr (.inr (.inr ⟨h1, h2, h3, by rw [if_neg h1, if_neg h2, if_neg h3]⟩))
set_option maxRecDepth 100000 in
set_option maxHeartbeats 8000000 in
theorem fn_Check (G : Glob) (acc : Int) (ps : List Po) : Fn G Tryd.prog 15 [.agg (bkC acc ps)] (.int .i64 (chkB acc ps)) := by
  unfold bkC
  refine Fn.mk (c := _) Tryd.func15 rfl rfl Tryd.ntmps15 Tryd.results15 ?_
  (simp -dsimp only [bodyW, List.length_cons, List.length_nil, Nat.zero_add, Nat.reduceLeDiff, wfL, ↓z_seq, ↓z_region, ↓z_ops_plain, ↓z_box, ↓evW_tmp, ↓z_lk_env, ↓reduceIte, ↓z_cl_agg, ↓z_nmC_cons, ↓z_mn'_int, ↓z_mn'_sl, ↓z_nmC_nil, and_self, ↓z_new, ↓z_nm_nil, Nat.reduceLT, ↓z_pg_env, ↓z_mn_agg, ↓z_pg_env0, ↓z_put, ↓z_assign, ↓evW_const, ↓constW_int, inR_i64, Int.reduceNeg, Int.reduceLE, ↓z_ops_nil, ↓z_seq_nrm, ↓z_fieldAddr, ↓lkW_cons, Nat.reduceEqDiff, ↓y_fl24x0, ↓y_sz3, ne_eq, reduceCtorEq, not_false_eq_true, ↓z_fa_ptr, ↓z_load, ↓y_ty3, ↓z_agTy_int, ↓loadW_ptr, ↓lkoW_cons, ↓z_rd_f, ↓nthW_cons, ↓z_binOp, ↓z_bn_lss, ↓z_move, ↓z_ops_guard, ↓z_grd, ↓z_dst_s, ↓z_dst_0, ↓z_grdD_b, ↓z_gdf, ↓z_gnf, ↓z_gft, ↓z_pick, ↓z_pick_b, ↓z_gnt, ↓z_gff, ↓constW_bool, ↓z_cond, ↓z_cnd, ↓z_gtt, ↓z_ret, ↓z_seq_rt, ↓z_end_rt, resLW, res1W, Bool.not_false, ↓z_coeL_cons, ↓z_coeL_nil, ↓z_pack1, ↓z_coe_int, D.int.injEq, true_and, ↓z_bn_gtr, ↓z_gdt, ↓z_skip, ↓y_fl24x1, ↓y_sz22, ↓y_ty22, ↓z_agTy_sl, Nat.reduceSub, ↓z_callb, ↓z_evL_cons, ↓z_evL_nil, ↓z_len, ↓z_ln_sl, ↓evW_func, ↓z_block, ↓z_loop, z_ite])
  intro hd
  unfold chkB
  refine ⟨fun g => ?_, fun g => ⟨fun g2 => ?_, fun g2 => ⟨fun g3 => ?_, fun g3 => ?_⟩⟩⟩
  · rw [if_pos (by omega)]
  · rw [if_pos (by omega)]
  · rw [if_neg (by omega), if_pos (by omega)]
  rw [if_neg (by omega), if_neg (by omega)]
  refine hold_intro ⟨[], Nat, fun i => ⟨71, 1, [(22, .int .i64 i), (21, .int .i64 ps.length), (20, .sl 6 ps.length (List.flatMap poC ps)), (4, .int .i64 (lastT ps i)), (3, .fn 37 []), (1, .ptr 0 0)], [(0, [.int .i64 acc, .sl 6 ps.length (List.flatMap poC ps)])]⟩, fun i => i ≤ ps.length ∧ chkP acc 0 ps = chkP acc (lastT ps i) (ps.drop i), fun i => ps.length - i, ?_, ?_⟩
  · (simp -dsimp only [↓z_ad_nil, ↓z_wk, ↓z_wkE_cons, ↓lkW_cons, ↓reduceIte, D.int.injEq, true_and, Nat.reduceEqDiff, ↓z_wkE_nil, and_self, and_true, ↓z_wkO_cons, ↓lkoW_cons, ↓z_wkO_nil]); (try simp only [Int.toNat_natCast, Nat.mul_one, Bool.or_false, Bool.false_or, Bool.or_self, Bool.or_true])
    exact ⟨0, ⟨by omega, rfl⟩, rfl, rfl⟩
  rintro i ⟨hi, he⟩
  by_cases h : i < ps.length
  · have hop := po_at h
    have hl2 := po_len ps
    have hla := lastT_s h
    have hs := chkS (acc := acc) h
    rw [← he] at hs
    unfold badP outP at hs
    (simp -dsimp only [↓z_seq, ↓z_region, ↓z_ops_plain, ↓z_binOp, ↓evW_tmp, ↓lkW_cons, ↓reduceIte, Nat.reduceEqDiff, ↓z_bn_lss, ↓z_put, Nat.reduceLT, ↓z_ops_nil, ↓z_seq_nrm, ↓z_cond, ↓z_cnd, ↓z_gdt, ↓z_skip, ↓z_block, ↓z_indexAddr, ↓y_ty22, ↓z_elTy_sl, ↓y_sz26, ↓z_ix_sl, ↓z_load, ↓y_ty26, ↓z_agTy_st, ↓loadW_rop, ↓z_rd_t, hl2, ↓z_alloc, ↓y_zr26, ↓z_new, ↓z_nm_cons, ↓z_nmC_cons, ↓z_mn'_int, ↓z_mn'_sl, ↓z_nmC_nil, and_self, ↓z_nm_nil, ↓z_pg_cons, ↓z_mn_agg, ↓z_mn_rop, ↓z_mn_bool, ↓z_mn_int, ↓z_mn_sl, ↓z_mn_fn, ↓z_mn_ptr, reduceCtorEq, ↓z_pg_nil, ↓z_store, ↓z_cl_agg, ↓z_store_ptr, ↓lkoW_cons, Nat.zero_add, List.length_cons, List.length_nil, Nat.reduceAdd, Nat.reduceLeDiff, ↓spsW_cons, ↓drW_cons, Nat.reduceSub, ↓drW_nil, ↓z_cat_nil_r, ↓z_so_cons, ↓z_put_none, ↓y_ty24, ↓y_sz24, ↓loadW_ptr, ↓z_sub_c, ↓z_sub_nil, ↓z_fieldAddr, ↓y_fl26x0, ↓y_sz3, ne_eq, not_false_eq_true, ↓z_fa_ptr, ↓y_ty3, ↓z_agTy_int, ↓z_rd_f, ↓z_callv, ↓evW_func, ↓z_evL_cons, ↓z_evL_nil, ↓z_fun0, ↓z_coeL_cons, ↓z_coe_oag, ↓z_coeC_cons, ↓z_coeS_int, ↓z_coeS_sl, ↓z_coeC_nil, ↓z_coeL_nil, true_and, z_sub, List.length_take, List.length_drop, ↓z_exit, ↓z_seq_ext, ↓z_lp_ext, ↓z_blk_ext, ↓z_assign, ↓evW_const, ↓constW_int, inR_i64, Int.reduceNeg, Int.reduceLE, ↓z_ret, ↓z_end_rt, resLW, res1W, ↓z_pack1, ↓z_coe_int, D.int.injEq, z_ite]); (try simp only [Int.toNat_natCast])
    refine ⟨fun _ => ⟨by omega, by omega, by omega, by omega, ?_⟩, fun h => by omega⟩
    rw [hop]
    (simp -dsimp only [↓nthW_cons, ↓reduceIte, ↓z_coe_int]); (try simp only [Int.toNat_natCast, Nat.mul_one, Bool.or_false, Bool.false_or, Bool.or_self, Bool.or_true])
    refine call_fn ((fn_account G acc _ ps).inp rfl) fun _ => ?_
    (simp -dsimp only [↓z_put, Nat.reduceLT, ↓z_ops_plain, ↓z_unOp, ↓evW_tmp, ↓lkW_cons, ↓reduceIte, ↓z_un_not, ↓z_assign, ↓z_ops_nil, ↓z_seq_nrm, ↓z_cond, ↓z_cnd, ↓z_gnt, ↓z_gdf, ↓z_seq, ↓z_region, ↓z_load, Nat.reduceEqDiff, ↓y_ty24, ↓y_sz24, ↓z_agTy_st, ↓loadW_ptr, ↓lkoW_cons, reduceCtorEq, ↓z_rd_t, Nat.zero_add, List.length_cons, List.length_nil, Nat.reduceAdd, Nat.reduceLeDiff, ↓z_sub_c, ↓z_sub_nil, ↓z_fieldAddr, ↓y_fl26x1, ↓y_sz3, ne_eq, not_false_eq_true, ↓z_fa_ptr, ↓y_ty3, ↓z_agTy_int, ↓z_rd_f, ↓nthW_cons, Nat.reduceSub, ↓z_callv, ↓evW_func, ↓z_evL_cons, ↓z_evL_nil, ↓z_fun0, ↓z_coeL_cons, ↓z_coe_oag, ↓z_coeC_cons, ↓z_coeS_int, ↓z_coeS_sl, ↓z_coeC_nil, ↓z_coe_int, ↓z_coeL_nil, true_and, ↓z_skip, ↓z_move, ↓y_fl26x2, ↓evW_const, ↓constW_int, inR_i64, Int.reduceNeg, Int.reduceLE, and_self, ↓z_ret, ↓z_blk_rt, ↓z_seq_rt, ↓z_lp_rt, ↓z_end_rt, resLW, res1W, ↓z_pack1, D.int.injEq, z_ite]); (try simp only [Int.toNat_natCast, Nat.mul_one, Bool.or_false, Bool.false_or, Bool.or_self, Bool.or_true])
    refine ⟨fun c1 => ?_, fun c1 => by omega⟩
    refine call_fn ((fn_account G acc _ ps).inp rfl) fun _ => ?_
    (simp -dsimp only [↓z_put, Nat.reduceLT, ↓z_ops_plain, ↓z_unOp, ↓evW_tmp, ↓lkW_cons, ↓reduceIte, ↓z_un_not, ↓z_assign, ↓z_ops_nil, ↓z_seq_nrm, ↓z_cond, ↓z_cnd, ↓z_gnt, ↓z_gdf, ↓z_region, ↓z_fieldAddr, Nat.reduceEqDiff, ↓y_fl26x0, ↓y_sz3, ne_eq, reduceCtorEq, not_false_eq_true, ↓z_fa_ptr, ↓z_load, ↓y_ty3, ↓z_agTy_int, ↓loadW_ptr, ↓lkoW_cons, ↓z_rd_f, ↓nthW_cons, Nat.zero_add, ↓y_fl26x1, Nat.reduceSub, ↓z_binOp, ↓z_bn_eql, ↓z_gdt, ↓z_seq, ↓evW_const, ↓constW_int, inR_i64, Int.reduceNeg, Int.reduceLE, and_self, ↓z_ret, ↓z_blk_rt, ↓z_seq_rt, ↓z_lp_rt, ↓z_end_rt, resLW, res1W, ↓z_coeL_cons, Nat.reduceAdd, ↓z_coeL_nil, ↓z_pack1, ↓z_coe_int, D.int.injEq, true_and, ↓z_move, ↓y_fl26x2, ↓z_callv, ↓z_evL_cons, ↓z_evL_nil, ↓z_fun0, z_ite, ↓z_skip]); (try simp only [Int.toNat_natCast, Nat.mul_one, Bool.or_false, Bool.false_or, Bool.or_self, Bool.or_true])
    refine ⟨fun c2 => ⟨fun c3 => by omega, fun c3 => ?_⟩, fun c2 => by omega⟩
    refine call_fn (fn_within G _ _ _) fun _ => ?_
    (simp -dsimp only [↓z_put, Nat.reduceLT, ↓z_ops_plain, ↓z_unOp, ↓evW_tmp, ↓lkW_cons, ↓reduceIte, ↓z_un_not, ↓z_assign, ↓z_ops_nil, ↓z_seq_nrm, ↓z_cond, ↓z_cnd, ↓z_gnt, ↓z_gdf, ↓z_seq, ↓z_region, ↓z_move, Nat.reduceEqDiff, ↓z_fieldAddr, ↓y_fl26x3, ↓y_sz3, ne_eq, reduceCtorEq, not_false_eq_true, ↓z_fa_ptr, ↓z_load, ↓y_ty3, ↓z_agTy_int, ↓loadW_ptr, ↓lkoW_cons, ↓z_rd_f, ↓nthW_cons, Nat.zero_add, Nat.reduceSub, ↓z_callv, ↓z_evL_cons, ↓evW_const, ↓constW_int, inR_i64, Int.reduceNeg, Int.reduceLE, and_self, ↓z_evL_nil, ↓z_fun0, ↓z_coeL_cons, ↓z_coe_int, ↓z_coeL_nil, true_and, ↓z_skip, ↓z_binOp, ↓z_bn_lss, ↓z_gdt, ↓z_ret, ↓z_blk_rt, ↓z_seq_rt, ↓z_lp_rt, ↓z_end_rt, resLW, res1W, Nat.reduceAdd, ↓z_pack1, D.int.injEq, ↓z_blk_nrm, ↓z_bn_add, ↓wrW_i64, ↓z_lp_nrm, ↓z_wk, ↓z_wkE_cons, ↓z_wkE_nil, and_true, ↓z_wkO_cons, ↓z_wkO_nil, z_ite]); (try simp only [Int.toNat_natCast, Nat.mul_one, Bool.or_false, Bool.false_or, Bool.or_self, Bool.or_true])
    refine ⟨fun c4 => ?_, fun c4 => by omega⟩
    refine call_fn (fn_within G _ _ _) fun _ => ?_
    (simp -dsimp only [↓z_put, Nat.reduceLT, ↓z_ops_plain, ↓z_unOp, ↓evW_tmp, ↓lkW_cons, ↓reduceIte, ↓z_un_not, ↓z_assign, ↓z_ops_nil, ↓z_seq_nrm, ↓z_cond, ↓z_cnd, ↓z_gnt, ↓z_gdf, ↓z_seq, ↓z_region, ↓z_move, Nat.reduceEqDiff, ↓z_fieldAddr, ↓y_fl26x4, ↓y_sz3, ne_eq, reduceCtorEq, not_false_eq_true, ↓z_fa_ptr, ↓z_load, ↓y_ty3, ↓z_agTy_int, ↓loadW_ptr, ↓lkoW_cons, ↓z_rd_f, ↓nthW_cons, Nat.zero_add, Nat.reduceSub, ↓z_callv, ↓z_evL_cons, ↓evW_const, ↓constW_int, inR_i64, Int.reduceNeg, Int.reduceLE, and_self, ↓z_evL_nil, ↓z_fun0, ↓z_coeL_cons, ↓z_coe_int, ↓z_coeL_nil, true_and, ↓z_skip, ↓y_fl26x3, ↓z_binOp, ↓z_bn_lss, ↓z_gdt, ↓z_ret, ↓z_blk_rt, ↓z_seq_rt, ↓z_lp_rt, ↓z_end_rt, resLW, res1W, Nat.reduceAdd, ↓z_pack1, D.int.injEq, ↓z_blk_nrm, ↓z_bn_add, ↓wrW_i64, ↓z_lp_nrm, ↓z_wk, ↓z_wkE_cons, ↓z_wkE_nil, and_true, ↓z_wkO_cons, ↓z_wkO_nil, z_ite]); (try simp only [Int.toNat_natCast, Nat.mul_one, Bool.or_false, Bool.false_or, Bool.or_self, Bool.or_true])
    refine ⟨fun c5 => ?_, fun c5 => by omega⟩
    refine call_fn (fn_within G _ _ _) fun _ => ?_
    (simp -dsimp only [↓z_put, Nat.reduceLT, ↓z_ops_plain, ↓z_unOp, ↓evW_tmp, ↓lkW_cons, ↓reduceIte, ↓z_un_not, ↓z_assign, ↓z_ops_nil, ↓z_seq_nrm, ↓z_cond, ↓z_cnd, ↓z_gnt, ↓z_gdf, ↓z_region, ↓z_move, Nat.reduceEqDiff, ↓z_fieldAddr, ↓y_fl26x5, ↓y_sz3, ne_eq, reduceCtorEq, not_false_eq_true, ↓z_fa_ptr, ↓z_load, ↓y_ty3, ↓z_agTy_int, ↓loadW_ptr, ↓lkoW_cons, ↓z_rd_f, ↓nthW_cons, Nat.zero_add, Nat.reduceSub, ↓z_callv, ↓z_evL_cons, ↓evW_const, ↓constW_int, inR_i64, Int.reduceNeg, Int.reduceLE, and_self, ↓z_evL_nil, ↓z_fun0, ↓z_coeL_cons, ↓z_coe_int, ↓z_coeL_nil, true_and, ↓z_skip, ↓z_seq, ↓y_fl26x3, ↓z_binOp, ↓z_bn_lss, ↓z_gdt, ↓z_ret, ↓z_blk_rt, ↓z_seq_rt, ↓z_lp_rt, ↓z_end_rt, resLW, res1W, Nat.reduceAdd, ↓z_pack1, D.int.injEq, ↓z_blk_nrm, ↓z_bn_add, ↓wrW_i64, ↓z_lp_nrm, ↓z_wk, ↓z_wkE_cons, ↓z_wkE_nil, and_true, ↓z_wkO_cons, ↓z_wkO_nil, z_ite]); (try simp only [Int.toNat_natCast, Nat.mul_one, Bool.or_false, Bool.false_or, Bool.or_self, Bool.or_true])
    refine ⟨fun c6 => ?_, fun c6 => by omega⟩
    refine call_fn (fn_within G _ _ _) fun _ => ?_
    (simp -dsimp only [↓z_put, Nat.reduceLT, ↓z_ops_plain, ↓z_unOp, ↓evW_tmp, ↓lkW_cons, ↓reduceIte, ↓z_un_not, ↓z_assign, ↓z_ops_nil, ↓z_seq_nrm, ↓z_cond, ↓z_cnd, ↓z_gnt, ↓z_gdf, ↓z_seq, ↓z_region, ↓z_fieldAddr, Nat.reduceEqDiff, ↓y_fl26x3, ↓y_sz3, ne_eq, reduceCtorEq, not_false_eq_true, ↓z_fa_ptr, ↓z_load, ↓y_ty3, ↓z_agTy_int, ↓loadW_ptr, ↓lkoW_cons, ↓z_rd_f, ↓nthW_cons, Nat.zero_add, Nat.reduceSub, ↓z_move, ↓z_binOp, ↓z_bn_lss, ↓z_gdt, ↓evW_const, ↓constW_int, inR_i64, Int.reduceNeg, Int.reduceLE, and_self, ↓z_ret, ↓z_blk_rt, ↓z_seq_rt, ↓z_lp_rt, ↓z_end_rt, resLW, res1W, ↓z_coeL_cons, Nat.reduceAdd, ↓z_coeL_nil, ↓z_pack1, ↓z_coe_int, D.int.injEq, true_and, ↓z_skip, ↓z_blk_nrm, ↓z_bn_add, ↓wrW_i64, ↓z_lp_nrm, ↓z_wk, ↓z_wkE_cons, ↓z_wkE_nil, and_true, ↓z_wkO_cons, ↓z_wkO_nil, z_ite]); (try simp only [Int.toNat_natCast, Nat.mul_one, Bool.or_false, Bool.false_or, Bool.or_self, Bool.or_true])
    exact ⟨fun c7 => ⟨fun c8 => by omega, fun c8 => ⟨by omega, i + 1, ⟨by omega, by omega⟩, by omega, by omega, hla.symm⟩⟩, fun c7 => by omega⟩
  · (simp -dsimp only [↓z_seq, ↓z_region, ↓z_ops_plain, ↓z_binOp, ↓evW_tmp, ↓lkW_cons, ↓reduceIte, Nat.reduceEqDiff, ↓z_bn_lss, ↓z_put, Nat.reduceLT, ↓z_ops_nil, ↓z_seq_nrm, ↓z_cond, ↓z_cnd, ↓z_gdt, ↓z_skip, ↓z_block, ↓z_indexAddr, ↓y_ty22, ↓z_elTy_sl, ↓y_sz26, ↓z_ix_sl, ↓z_load, ↓y_ty26, ↓z_agTy_st, ↓loadW_rop, ↓z_rd_t, ↓z_alloc, ↓y_zr26, ↓z_new, ↓z_nm_cons, ↓z_nmC_cons, ↓z_mn'_int, ↓z_mn'_sl, ↓z_nmC_nil, and_self, ↓z_nm_nil, ↓z_pg_cons, ↓z_mn_agg, ↓z_mn_rop, ↓z_mn_bool, ↓z_mn_int, ↓z_mn_sl, ↓z_mn_fn, ↓z_mn_ptr, reduceCtorEq, ↓z_pg_nil, ↓z_store, ↓z_cl_agg, ↓z_store_ptr, ↓lkoW_cons, Nat.zero_add, List.length_cons, List.length_nil, Nat.reduceAdd, Nat.reduceLeDiff, ↓spsW_cons, ↓drW_cons, Nat.reduceSub, ↓drW_nil, ↓z_cat_nil_r, ↓z_so_cons, ↓z_put_none, ↓y_ty24, ↓y_sz24, ↓loadW_ptr, ↓z_sub_c, ↓z_sub_nil, ↓z_fieldAddr, ↓y_fl26x0, ↓y_sz3, ne_eq, not_false_eq_true, ↓z_fa_ptr, ↓y_ty3, ↓z_agTy_int, ↓z_rd_f, ↓z_callv, ↓evW_func, ↓z_evL_cons, ↓z_evL_nil, ↓z_fun0, ↓z_coeL_cons, ↓z_coe_oag, ↓z_coeC_cons, ↓z_coeS_int, ↓z_coeS_sl, ↓z_coeC_nil, ↓z_coeL_nil, true_and, z_sub, List.length_take, List.length_drop, ↓z_exit, ↓z_seq_ext, ↓z_lp_ext, ↓z_blk_ext, ↓z_assign, ↓evW_const, ↓constW_int, inR_i64, Int.reduceNeg, Int.reduceLE, ↓z_ret, ↓z_end_rt, resLW, res1W, ↓z_pack1, ↓z_coe_int, D.int.injEq, z_ite]); (try simp only [Int.toNat_natCast])
    refine ⟨fun h => by omega, fun _ => ?_⟩
    rw [he, List.drop_eq_nil_of_le (by omega)]; rfl
set_option maxRecDepth 100000 in
set_option maxHeartbeats 8000000 in
theorem fn_refCheck (G : Glob) (acc : Int) (ps : List Po) : Fn G Tryd.prog 16 [.agg (bkC acc ps)] (.int .i64 (chkB acc ps)) := by
  unfold bkC
  refine Fn.mk (c := _) Tryd.func16 rfl rfl Tryd.ntmps16 Tryd.results16 ?_
  (simp -dsimp only [bodyW, List.length_cons, List.length_nil, Nat.zero_add, Nat.reduceLeDiff, wfL, ↓z_seq, ↓z_region, ↓z_ops_plain, ↓z_box, ↓evW_tmp, ↓z_lk_env, ↓reduceIte, ↓z_cl_agg, ↓z_nmC_cons, ↓z_mn'_int, ↓z_mn'_sl, ↓z_nmC_nil, and_self, ↓z_new, ↓z_nm_nil, Nat.reduceLT, ↓z_pg_env, ↓z_mn_agg, ↓z_pg_env0, ↓z_put, ↓z_assign, ↓evW_const, ↓constW_int, inR_i64, Int.reduceNeg, Int.reduceLE, ↓z_ops_nil, ↓z_seq_nrm, ↓z_fieldAddr, ↓lkW_cons, Nat.reduceEqDiff, ↓y_fl24x0, ↓y_sz3, ne_eq, reduceCtorEq, not_false_eq_true, ↓z_fa_ptr, ↓z_load, ↓y_ty3, ↓z_agTy_int, ↓loadW_ptr, ↓lkoW_cons, ↓z_rd_f, ↓nthW_cons, ↓z_binOp, ↓z_bn_lss, ↓z_move, ↓z_ops_guard, ↓z_grd, ↓z_dst_s, ↓z_dst_0, ↓z_grdD_b, ↓z_gdf, ↓z_gnf, ↓z_gft, ↓z_pick, ↓z_pick_b, ↓z_gnt, ↓z_gff, ↓constW_bool, ↓z_cond, ↓z_cnd, ↓z_gtt, ↓z_ret, ↓z_seq_rt, ↓z_end_rt, resLW, res1W, Bool.not_false, ↓z_coeL_cons, ↓z_coeL_nil, ↓z_pack1, ↓z_coe_int, D.int.injEq, true_and, ↓z_bn_gtr, ↓z_gdt, ↓z_skip, ↓y_fl24x1, ↓y_sz22, ↓y_ty22, ↓z_agTy_sl, Nat.reduceSub, ↓z_callb, ↓z_evL_cons, ↓z_evL_nil, ↓z_len, ↓z_ln_sl, ↓z_block, ↓z_loop, z_ite])
  intro hd
  unfold chkB
  refine ⟨fun g => ?_, fun g => ⟨fun g2 => ?_, fun g2 => ⟨fun g3 => ?_, fun g3 => ?_⟩⟩⟩
  · rw [if_pos (by omega)]
  · rw [if_pos (by omega)]
  · rw [if_neg (by omega), if_pos (by omega)]
  rw [if_neg (by omega), if_neg (by omega)]
  refine hold_intro ⟨[], Nat, fun i => ⟨52, 1, [(3, .int .i64 i), (1, .ptr 0 0)], [(0, [.int .i64 acc, .sl 6 ps.length (List.flatMap poC ps)])]⟩, fun i => i ≤ ps.length ∧ chkP acc 0 ps = chkP acc (lastT ps i) (ps.drop i), fun i => ps.length - i, ?_, ?_⟩
  · (simp -dsimp only [↓z_ad_nil, ↓z_wk, ↓z_wkE_cons, ↓lkW_cons, ↓reduceIte, D.int.injEq, true_and, Nat.reduceEqDiff, ↓z_wkE_nil, and_self, and_true, ↓z_wkO_cons, ↓lkoW_cons, ↓z_wkO_nil]); (try simp only [Int.toNat_natCast, Nat.mul_one, Bool.or_false, Bool.false_or, Bool.or_self, Bool.or_true])
    exact ⟨0, ⟨by omega, rfl⟩, rfl⟩
  rintro i ⟨hi, he⟩
  by_cases h : i < ps.length
  · have hop := po_at h
    have hl2 := po_len ps
    have hla := lastT_s h
    have hs := chkS (acc := acc) h
    have ho := oneE_or acc ps[i]
    rw [← he] at hs
    unfold badP outP at hs ho
    (simp -dsimp only [↓z_seq, ↓z_region, ↓z_ops_plain, ↓z_move, ↓evW_tmp, ↓lkW_cons, ↓reduceIte, ↓z_put, Nat.reduceLT, ↓z_fieldAddr, Nat.reduceEqDiff, ↓y_fl24x1, ↓y_sz22, ne_eq, reduceCtorEq, not_false_eq_true, ↓z_fa_ptr, ↓z_load, ↓y_ty22, ↓z_agTy_sl, ↓loadW_ptr, ↓lkoW_cons, ↓z_rd_f, ↓nthW_cons, Nat.zero_add, Nat.reduceSub, ↓z_callb, ↓z_evL_cons, ↓z_evL_nil, ↓z_len, ↓z_ln_sl, ↓z_binOp, ↓z_bn_lss, ↓z_ops_nil, ↓z_seq_nrm, ↓z_cond, ↓z_cnd, ↓z_gdt, ↓z_skip, ↓z_block, ↓z_region_d, ↓y_mix, true_and, ↓z_exit, ↓z_seq_ext, ↓z_lp_ext, ↓z_blk_ext, ↓z_assign, ↓evW_const, ↓constW_int, inR_i64, Int.reduceNeg, Int.reduceLE, and_self, ↓z_ret, ↓z_end_rt, resLW, res1W, ↓z_coeL_cons, ↓z_coeL_nil, ↓z_pack1, ↓z_coe_int, D.int.injEq, z_ite])
    refine ⟨fun _ => ?_, fun h => by omega⟩
    refine rgn_d (by decide +kernel) ?_
    (simp -dsimp only [↓z_drw_load, ↓z_drwS, ↓z_grd_none, ↓z_withE, ↓z_rd_tmp, ↓lkW_cons, Nat.reduceEqDiff, ↓reduceIte, ↓z_rd_nil, ↓z_ap_cons, ↓z_ap_nil, ↓z_or_load, ↓z_load, ↓evW_tmp, ↓y_ty24, ↓y_sz24, ↓z_agTy_st, ↓loadW_ptr, ↓lkoW_cons, ↓z_rd_t, Nat.zero_add, List.length_cons, List.length_nil, Nat.reduceAdd, Nat.reduceLeDiff, ↓z_sub_c, ↓z_sub_nil, and_true, true_and, ↓z_exD_all, ↓z_exD_eq, ↓z_put, Nat.reduceLT, ↓z_drwK, ↓z_drw_fieldAddr, ↓z_or_fieldAddr, ↓z_fieldAddr, ↓y_fl24x1, ↓y_sz22, ne_eq, reduceCtorEq, not_false_eq_true, ↓z_fa_ptr, ↓y_ty22, ↓z_agTy_sl, ↓z_rd_f, ↓nthW_cons, Nat.reduceSub, ↓z_drw_move, ↓z_or_move, ↓z_move, ↓z_drw_indexAddr, ↓z_or_indexAddr, ↓z_indexAddr, ↓z_elTy_sl, ↓y_sz26, ↓z_ix_sl, ↓z_exD_and, ↓y_ty26, ↓loadW_rop, hl2, z_sub, ↓z_drw_callv, ↓z_rd_func]); (try simp only [Int.toNat_natCast])
    refine ⟨by omega, by omega, by omega, ?_⟩
    rw [hop]
    refine ex_mk (.int .i64 (oneE acc ps[i])) (fun E => by (simp -dsimp only [↓z_ap_cons, ↓z_ap_nil, ↓z_callv, ↓evW_func, ↓z_evL_cons, ↓evW_tmp, ↓lkW_cons, ↓reduceIte, Nat.reduceEqDiff, ↓z_evL_nil, ↓z_fun0, ↓z_coeL_cons, ↓z_coe_oag, ↓z_coeC_cons, ↓z_coeS_int, ↓z_coeS_sl, ↓z_coeC_nil, ↓z_coe_agg, ↓z_coeL_nil]); (try simp only [Int.toNat_natCast, Nat.mul_one, Bool.or_false, Bool.false_or, Bool.or_self, Bool.or_true]); exact call_fn ((fn_one G acc ps ps[i]).inp rfl) fun _ => ⟨rfl, rfl⟩) ?_
    (simp -dsimp only [↓z_put, Nat.reduceLT, ↓z_drwK, ↓z_drw_assign, ↓z_drwS, ↓z_grd_none, ↓z_withE, ↓z_rd_tmp, ↓lkW_cons, ↓reduceIte, ↓z_rd_nil, ↓z_ap_cons, ↓z_ap_nil, ↓z_or_assign, ↓z_assign, ↓evW_tmp, and_true, ↓z_exD_all, ↓z_exD_eq, ↓z_drw_nil, ↓z_seq_nrm, ↓z_seq, ↓z_region, ↓z_ops_plain, ↓z_move, ↓z_binOp, ↓evW_const, ↓constW_int, inR_i64, Int.reduceNeg, Int.reduceLE, and_self, ↓z_bn_neq, ↓z_ops_nil, ↓z_cond, ↓z_cnd, ↓z_gdt, ne_eq, Nat.reduceEqDiff, ↓z_ret, ↓z_seq_rt, ↓z_blk_rt, ↓z_lp_rt, ↓z_end_rt, resLW, res1W, Nat.zero_add, ↓z_coeL_cons, ↓z_coeL_nil, ↓z_pack1, ↓z_coe_int, D.int.injEq, true_and, ↓z_skip, ↓z_region_d, ↓y_mix, z_ite, Classical.not_not]); (try simp only [Int.toNat_natCast, Nat.mul_one, Bool.or_false, Bool.false_or, Bool.or_self, Bool.or_true])
    refine ⟨fun c1 => by omega, fun c1 => ?_⟩
    refine rgn_q (by decide +kernel) rfl ?_
    (simp -dsimp only [↓z_ops_plain, ↓z_move, ↓evW_tmp, ↓lkW_cons, Nat.reduceEqDiff, ↓reduceIte, ↓z_put, Nat.reduceLT, ↓z_binOp, ↓evW_const, ↓constW_int, inR_i64, Int.reduceNeg, Int.reduceLE, and_self, ↓z_bn_gtr, ↓z_ops_guard, ↓z_grd, ↓z_dst_s, ↓z_dst_0, ↓z_grdD_b, ↓z_gdt, ↓z_fieldAddr, ↓y_fl24x1, ↓y_sz22, ne_eq, reduceCtorEq, not_false_eq_true, ↓z_fa_ptr, ↓z_gtt, ↓z_load, ↓y_ty22, ↓z_agTy_sl, ↓loadW_ptr, ↓lkoW_cons, ↓z_rd_f, ↓nthW_cons, Nat.zero_add, Nat.reduceSub, ↓z_indexAddr, ↓z_elTy_sl, ↓y_sz26, ↓z_ix_sl, ↓y_fl26x3, ↓y_sz3, ↓z_fa_rop, ↓y_ty3, ↓z_agTy_int, ↓loadW_rop, ↓z_bn_sub, ↓wrW_i64, ↓z_pick, ↓z_pick_b, ↓z_ops_nil, ↓z_seq_nrm, ↓z_cond, ↓z_seq, ↓z_region, ↓z_assign, ↓z_ret, ↓z_blk_rt, ↓z_seq_rt, ↓z_lp_rt, ↓z_end_rt, resLW, res1W, ↓z_coeL_cons, ↓z_coeL_nil, ↓z_pack1, ↓z_coe_int, D.int.injEq, true_and, ↓z_skip, ↓z_blk_nrm, ↓z_bn_add, ↓z_lp_nrm, ↓z_wk, ↓z_wkE_cons, ↓z_wkE_nil, and_true, ↓z_wkO_cons, ↓z_wkO_nil, nth_po3, ↓z_bn_lss, ↓z_cnd, z_ite, ↓z_gnt, ↓z_gtf, ↓constW_bool, ↓z_gft]); (try simp only [Int.toNat_natCast])
    refine ⟨fun g => ⟨by omega, by omega, h, by omega, by omega, by omega, by omega, ?_⟩, fun g => ?_⟩
    · have e2 : lastT ps i = (ps[((i : Int) - 1).toNat]'(by omega)).t := by
        have e3 : ps[((i : Int) - 1).toNat]'(by omega) = ps[i - 1]'(by omega) := by congr 1; omega
        rw [e3]
        obtain ⟨j, rfl⟩ : ∃ j, i = j + 1 := ⟨i - 1, by omega⟩
        exact lastT_s (by omega)
      rw [← e2]
      exact ⟨fun v => by omega, fun v => ⟨by omega, i + 1, ⟨by omega, by omega⟩, by omega, by omega⟩⟩
    · have e0 : lastT ps i = 0 := by
        have : i = 0 := by omega
        subst this; rfl
      exact ⟨by omega, i + 1, ⟨by omega, by omega⟩, by omega, by omega⟩
  · (simp -dsimp only [↓z_seq, ↓z_region, ↓z_ops_plain, ↓z_move, ↓evW_tmp, ↓lkW_cons, ↓reduceIte, ↓z_put, Nat.reduceLT, ↓z_fieldAddr, Nat.reduceEqDiff, ↓y_fl24x1, ↓y_sz22, ne_eq, reduceCtorEq, not_false_eq_true, ↓z_fa_ptr, ↓z_load, ↓y_ty22, ↓z_agTy_sl, ↓loadW_ptr, ↓lkoW_cons, ↓z_rd_f, ↓nthW_cons, Nat.zero_add, Nat.reduceSub, ↓z_callb, ↓z_evL_cons, ↓z_evL_nil, ↓z_len, ↓z_ln_sl, ↓z_binOp, ↓z_bn_lss, ↓z_ops_nil, ↓z_seq_nrm, ↓z_cond, ↓z_cnd, ↓z_gdt, ↓z_skip, ↓z_block, ↓z_region_d, ↓y_mix, true_and, ↓z_exit, ↓z_seq_ext, ↓z_lp_ext, ↓z_blk_ext, ↓z_assign, ↓evW_const, ↓constW_int, inR_i64, Int.reduceNeg, Int.reduceLE, and_self, ↓z_ret, ↓z_end_rt, resLW, res1W, ↓z_coeL_cons, ↓z_coeL_nil, ↓z_pack1, ↓z_coe_int, D.int.injEq, z_ite])
    refine ⟨fun h => by omega, fun _ => ?_⟩
    rw [he, List.drop_eq_nil_of_le (by omega)]; rfl
end Go.Abs

