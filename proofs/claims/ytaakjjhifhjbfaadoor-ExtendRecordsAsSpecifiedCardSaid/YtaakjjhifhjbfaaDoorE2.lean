/-
  EXTEND, first walks: lists of ballots; small functions.
-/
import Derived.Test.YtaakjjhifhjbfaaDoorE1
namespace Go.Abs
open Go.Proofs
theorem fm_len {α : Type} {f : α → List D} {m : Nat} (hf : ∀ x, (f x).length = m) : ∀ l : List α, (List.flatMap f l).length = l.length * m
  | [] => by simp
  | x :: r => by rw [List.flatMap_cons, List.length_append, hf, fm_len hf r, List.length_cons, Nat.add_mul]; omega
theorem fm_at {α : Type} {f : α → List D} {m : Nat} (hf : ∀ x, (f x).length = m) : ∀ {l : List α} {j : Nat} (h : j < l.length), ((List.flatMap f l).drop (j * m)).take m = f l[j]
  | x :: r, 0, h => by simp [List.flatMap_cons, hf]
  | x :: r, j + 1, h => by
    have e : (j + 1) * m = (f x).length + j * m := by rw [hf, Nat.add_mul]; omega
    rw [List.flatMap_cons, e, List.drop_length_add_append]
    exact fm_at hf (l := r) (by simpa using h)
theorem fm_get {α : Type} {f : α → List D} {m : Nat} (hf : ∀ x, (f x).length = m) {l : List α} {j c : Nat} (h : j < l.length) (hc : c < m) : (List.flatMap f l)[j * m + c]? = (f l[j])[c]? := by
  have h1 := fm_at hf h
  rw [← h1, List.getElem?_take_of_lt hc, List.getElem?_drop]
theorem fm_take {α : Type} {f : α → List D} {m : Nat} (hf : ∀ x, (f x).length = m) : ∀ {l : List α} {j : Nat}, (List.flatMap f l).take (j * m) = List.flatMap f (l.take j)
  | [], j => by simp
  | x :: r, 0 => by simp
  | x :: r, j + 1 => by
    have e : (j + 1) * m = (f x).length + j * m := by rw [hf, Nat.add_mul]; omega
    rw [List.flatMap_cons, List.take_succ_cons, List.flatMap_cons, e, List.take_length_add_append, fm_take hf]
theorem fm_nth {α : Type} {f : α → List D} {m : Nat} (hf : ∀ x, (f x).length = m) (l : List α) (j c : Nat) (hc : c < m) (g : α → D) (hg : ∀ x, (f x)[c]? = some (g x)) (k : D → Prop) : nthW (List.flatMap f l) (j * m + c) k = ∃ h : j < l.length, k (g l[j]) := by
  by_cases h : j < l.length
  · rw [nthW_iff ((fm_get hf h hc).trans (hg _))]; simp [h]
  · rw [nthW_none (by
      rw [List.getElem?_eq_none_iff, fm_len hf]
      have : l.length * m ≤ j * m := Nat.mul_le_mul_right m (by omega)
      omega)]; simp [h]
theorem takeS {α : Type} {l : List α} {i : Nat} (h : i < l.length) : l.take (i + 1) = l.take i ++ [l[i]] := by simp
theorem bl_len1 (v : Bl) : (blC v).length = 19 := by simp [blC, v.hs]
theorem bl_len (l : List Bl) : (List.flatMap blC l).length = l.length * 19 := fm_len bl_len1 l
theorem bl_eq (v : Bl) : blC v = .int .i64 v.h :: .int .i64 v.t :: .bool v.y :: v.s.map bD := rfl
theorem bl_at {l : List Bl} {j : Nat} (h : j < l.length) : ((List.flatMap blC l).drop (j * 19)).take 19 = blC l[j] := fm_at bl_len1 h
theorem bl_flS (l : List Bl) : ∀ c ∈ List.flatMap blC l, flS c = true := by
  intro c hc
  obtain ⟨x, _, hx⟩ := List.mem_flatMap.1 hc
  rw [bl_eq, List.mem_cons, List.mem_cons, List.mem_cons, List.mem_map] at hx
  rcases hx with rfl | rfl | rfl | ⟨b, _, rfl⟩ <;> rfl
theorem bl_allP (l : List Bl) : allP (List.flatMap blC l) = True := eq_true fun c hc => flS_isP (bl_flS l c hc)
theorem bl_nmC (id : Nat) (l : List Bl) : nmC id (List.flatMap blC l) = True := eq_true fun c hc => by
  have := bl_flS l c hc
  cases c <;> first | rfl | (simp [flS] at this)
theorem bl_nmRL (a : Nat) (l : List Bl) : nmRL a (List.flatMap blC l) = True := eq_true fun c hc => nmR_P (flS_isP (bl_flS l c hc))
theorem nth_bl0 (l : List Bl) (j : Nat) (k : D → Prop) : nthW (List.flatMap blC l) (j * 19 + 0) k = ∃ h : j < l.length, k (.int .i64 l[j].h) := fm_nth bl_len1 l j 0 (by decide) (fun p => .int .i64 p.h) (fun _ => rfl) k
theorem nth_bl1 (l : List Bl) (j : Nat) (k : D → Prop) : nthW (List.flatMap blC l) (j * 19 + 1) k = ∃ h : j < l.length, k (.int .i64 l[j].t) := fm_nth bl_len1 l j 1 (by decide) (fun p => .int .i64 p.t) (fun _ => rfl) k
theorem nth_bl2 (l : List Bl) (j : Nat) (k : D → Prop) : nthW (List.flatMap blC l) (j * 19 + 2) k = ∃ h : j < l.length, k (.bool l[j].y) := fm_nth bl_len1 l j 2 (by decide) (fun p => .bool p.y) (fun _ => rfl) k
theorem bl_sub {l : List Bl} {j : Nat} (h : j < l.length) (k : List D → Prop) : subW (List.flatMap blC l) ((j : Int).toNat * 19) 19 k = k (blC l[j]) := by
  unfold subW; rw [Int.toNat_natCast, bl_at h]
set_option maxRecDepth 100000 in
set_option maxHeartbeats 8000000 in
theorem fn_Index (G : Glob) (xs : List Int) (n : Int) : Fn G Tryd.prog 56 [.sl 1 xs.length (xs.map (D.int .i64)), .int .i64 n] (.int .i64 (seatI xs n)) := by
  refine Fn.mk (c := _) Tryd.func56 rfl rfl Tryd.ntmps56 Tryd.results56 ?_
  (simp -dsimp only [bodyW, List.length_cons, List.length_nil, Nat.zero_add, Nat.reduceAdd, Nat.reduceLeDiff, wfL, ↓z_seq, ↓z_region, ↓z_ops_plain, ↓z_assign, ↓evW_const, ↓constW_int, inR_i64, Int.reduceNeg, Int.reduceLE, and_self, ↓z_put, Nat.reduceLT, ↓z_ops_nil, ↓z_seq_nrm, ↓z_move, ↓evW_tmp, ↓lkW_cons, reduceCtorEq, ↓reduceIte, ↓z_lk_env, ↓z_callb, ↓z_evL_cons, ↓z_evL_nil, ↓z_len, ↓y_ty22, ↓z_ln_sl, ↓z_block, ↓z_loop, true_and])
  intro hx _
  have hx' : xs.length ≤ 9223372036854775807 := hx.1.1
  refine hold_intro ⟨[], Nat, fun i => ⟨19, 0, [(8, .int .i64 i), (7, .int .i64 xs.length), (0, .sl 1 xs.length (xs.map (D.int .i64))), (1, .int .i64 n)], []⟩, fun i => i ≤ xs.length ∧ ∀ (j : Nat) (hj : j < i) (hx : j < xs.length), decide (xs[j] = n) = false, fun i => xs.length - i, ?_, ?_⟩
  · (simp -dsimp only [↓z_ad_nil, ↓z_wk, ↓z_wkE_cons, ↓lkW_cons, ↓reduceIte, D.int.injEq, true_and, Nat.reduceEqDiff, reduceCtorEq, ↓z_lk_env, Nat.zero_add, ↓z_wkE_nil, and_self, and_true, ↓z_wkO_nil]); (try simp only [Int.toNat_natCast, Nat.mul_one, Bool.or_false, Bool.false_or, Bool.or_self, Bool.or_true])
    exact ⟨0, by simp⟩
  · rintro i ⟨hi, ha⟩
    (simp -dsimp only [↓z_seq, ↓z_region, ↓z_ops_plain, ↓z_binOp, ↓evW_tmp, ↓lkW_cons, ↓reduceIte, Nat.reduceEqDiff, ↓z_bn_lss, ↓z_put, Nat.reduceLT, ↓z_ops_nil, ↓z_seq_nrm, ↓z_cond, ↓z_cnd, ↓z_gdt, ↓z_skip, ↓z_block, ↓z_move, ↓z_assign, reduceCtorEq, ↓z_indexAddr, ↓y_ty22, ↓z_elTy_sl, ↓y_sz3, ↓z_ix_sl, ↓z_load, ↓y_ty3, ↓z_agTy_int, ↓loadW_rop, ↓z_rd_f, ↓z_nth_int, ↓z_bn_eql, Nat.mul_one, ↓z_ret, ↓z_blk_rt, ↓z_seq_rt, ↓z_lp_rt, ↓z_end_rt, resLW, res1W, ↓z_coeL_cons, ↓z_coeL_nil, ↓z_pack1, ↓z_coe_int, D.int.injEq, true_and, ↓z_blk_nrm, ↓evW_const, ↓constW_int, inR_i64, Int.reduceNeg, Int.reduceLE, and_self, ↓z_bn_add, ↓wrW_i64, ↓z_lp_nrm, ↓z_wk, ↓z_wkE_cons, ↓z_wkE_nil, and_true, ↓z_wkO_nil, z_ite, ↓z_exit, ↓z_seq_ext, ↓z_lp_ext, ↓z_blk_ext]); (try simp only [Int.toNat_natCast])
    refine ⟨fun h => ⟨by omega, by omega, by omega, fun hl => ?_, fun hl => ⟨by omega, i + 1, ⟨by omega, fun j hj hx => ?_⟩, by omega, by omega⟩⟩, fun h => ?_⟩
    · exact (fIdx_some (by omega) (by rw [decide_eq_true_eq]; exact hl.symm) fun j hj => ha j hj (by omega)).symm
    · by_cases e : j = i
      · subst e; rw [decide_eq_false_iff_not]; exact fun g => hl g.symm
      · exact ha j (by omega) hx
    · exact (fIdx_none fun j hj => ha j (by omega) hj).symm
set_option maxRecDepth 100000 in
set_option maxHeartbeats 8000000 in
theorem fn_Contains (G : Glob) (xs : List Int) (n : Int) : Fn G Tryd.prog 40 [.sl 1 xs.length (xs.map (D.int .i64)), .int .i64 n] (.bool (decide (0 ≤ seatI xs n))) := by
  refine Fn.mk (c := _) Tryd.func40 rfl rfl Tryd.ntmps40 Tryd.results40 ?_
  (simp -dsimp only [bodyW, List.length_cons, List.length_nil, Nat.zero_add, Nat.reduceAdd, Nat.reduceLeDiff, wfL, ↓z_seq, ↓z_region, ↓z_ops_plain, ↓z_assign, ↓evW_const, ↓constW_bool, ↓z_put, Nat.reduceLT, ↓z_ops_nil, ↓z_seq_nrm, ↓z_move, ↓evW_tmp, ↓lkW_cons, reduceCtorEq, ↓reduceIte, ↓z_lk_env, Nat.reduceEqDiff, ↓z_callv, ↓evW_func, ↓z_evL_cons, ↓z_evL_nil, ↓z_fun0, ↓z_coeL_cons, ↓z_coe_sl, ↓z_coe_int, ↓z_coeL_nil, true_and])
  intro _ _
  refine call_fn (fn_Index G xs n) fun _ => ?_
  (simp -dsimp only [↓z_put, Nat.reduceLT, ↓z_ops_plain, ↓z_binOp, ↓evW_tmp, ↓lkW_cons, ↓reduceIte, ↓evW_const, ↓constW_int, inR_i64, Int.reduceNeg, Int.reduceLE, and_self, ↓z_bn_geq, ↓z_assign, ↓z_ops_nil, ↓z_seq_nrm, ↓z_ret, ↓z_end_rt, resLW, res1W, ↓z_envF_cons, Nat.zero_add, ↓z_envF_nil, ↓z_coeL_cons, ↓z_coeL_nil, ↓z_pack1, ↓z_coe_bool]); (try simp only [Int.toNat_natCast, Nat.mul_one, Bool.or_false, Bool.false_or, Bool.or_self, Bool.or_true])
theorem fn_flag (G : Glob) (b : Bool) : Fn G Tryd.prog 36 [.bool b] (.int .i64 (flg b)) := by
  cases b
  all_goals
    refine Fn.mk (c := _) Tryd.func36 rfl rfl Tryd.ntmps36 Tryd.results36 ?_
    (simp -dsimp only [bodyW, List.length_cons, List.length_nil, Nat.zero_add, Nat.reduceLeDiff, wfL, ↓z_seq, ↓z_region, ↓z_ops_plain, ↓z_assign, ↓evW_const, ↓constW_int, inR_i64, Int.reduceNeg, Int.reduceLE, and_self, ↓z_put, Nat.reduceLT, ↓z_ops_nil, ↓z_seq_nrm, ↓z_move, ↓evW_tmp, ↓lkW_cons, reduceCtorEq, ↓reduceIte, ↓z_lk_env, ↓z_cond, ↓z_cnd, ↓z_gft, ↓z_skip, ↓z_ret, ↓z_end_rt, resLW, res1W, ↓z_envF_cons, ↓z_envF_nil, ↓z_coeL_cons, ↓z_coeL_nil, ↓z_pack1, ↓z_coe_int, D.int.injEq, true_and, ↓z_gtt, ↓z_seq_rt]); (try simp only [Int.toNat_natCast, Nat.mul_one, Bool.or_false, Bool.false_or, Bool.or_self, Bool.or_true])
    first | exact fun _ => rfl | rfl | trivial
theorem fn_refflag (G : Glob) (b : Bool) : Fn G Tryd.prog 44 [.bool b] (.int .i64 (flg b)) := by
  cases b
  all_goals
    refine Fn.mk (c := _) Tryd.func44 rfl rfl Tryd.ntmps44 Tryd.results44 ?_
    (simp -dsimp only [bodyW, List.length_cons, List.length_nil, Nat.zero_add, Nat.reduceLeDiff, wfL, ↓z_seq, ↓z_region, ↓z_ops_plain, ↓z_assign, ↓evW_const, ↓constW_int, inR_i64, Int.reduceNeg, Int.reduceLE, and_self, ↓z_put, Nat.reduceLT, ↓z_ops_nil, ↓z_seq_nrm, ↓z_move, ↓evW_tmp, ↓lkW_cons, reduceCtorEq, ↓reduceIte, ↓z_lk_env, ↓z_cond, ↓z_cnd, ↓z_gft, ↓z_skip, ↓z_ret, ↓z_end_rt, resLW, res1W, ↓z_envF_cons, ↓z_envF_nil, ↓z_coeL_cons, ↓z_coeL_nil, ↓z_pack1, ↓z_coe_int, D.int.injEq, true_and, ↓z_gtt, ↓z_seq_rt]); (try simp only [Int.toNat_natCast, Nat.mul_one, Bool.or_false, Bool.false_or, Bool.or_self, Bool.or_true])
    first | exact fun _ => rfl | rfl | trivial
set_option maxRecDepth 100000 in
set_option maxHeartbeats 8000000 in
theorem fn_framed (G : Glob) (c : Cn) (m : Pl) : Fn G Tryd.prog 33 [.agg (cnC c), .agg (plC m)] (.bool (decide (frmP c m))) := by
  unfold cnC plC
  refine Fn.mk (c := _) Tryd.func33 rfl rfl Tryd.ntmps33 Tryd.results33 ?_
  (simp -dsimp only [bodyW, List.length_cons, List.length_nil, Nat.zero_add, Nat.reduceAdd, Nat.reduceLeDiff, wfL, ↓z_seq, ↓z_region, ↓z_ops_plain, ↓z_box, ↓evW_tmp, ↓z_lk_env, ↓reduceIte, ↓z_cl_agg, ↓z_nmC_cons, ↓z_mn'_sl, ↓z_mn'_int, ↓z_nmC_nil, and_self, ↓z_new, ↓z_nm_nil, Nat.reduceLT, ↓z_pg_env, ↓z_mn_agg, ↓z_pg_env0, ↓z_put, ↓lkW_cons, Nat.reduceEqDiff, reduceCtorEq, ↓z_nm_cons, ↓z_pg_cons, ↓z_mn_ptr, ↓z_pg_nil, ↓z_assign, ↓evW_const, ↓constW_bool, ↓z_ops_nil, ↓z_seq_nrm, ↓z_fieldAddr, ↓y_fl34x0, ↓y_sz3, ne_eq, not_false_eq_true, ↓z_fa_ptr, ↓z_load, ↓y_ty3, ↓z_agTy_int, ↓loadW_ptr, ↓lkoW_cons, ↓z_rd_f, ↓nthW_cons, ↓z_binOp, ↓constW_int, inR_i64, Int.reduceNeg, Int.reduceLE, ↓z_bn_geq, ↓z_move, ↓z_ops_guard, ↓z_grd, ↓z_dst_s, ↓z_dst_0, ↓z_grdD_b, ↓z_gdt, ↓z_gtt, ↓z_bn_leq, ↓z_pick, ↓z_pick_b, ↓y_fl34x3, Nat.reduceSub, ↓y_fl34x1, ↓y_fl34x2, ↓z_bn_lss, ↓z_bn_sub, ↓wrW_i64, ↓y_fl25x3, ↓z_ret, ↓z_end_rt, resLW, res1W, ↓z_coeL_cons, ↓z_coeL_nil, ↓z_pack1, ↓z_coe_bool, D.bool.injEq, true_and, ↓z_gnt, ↓z_gtf, Bool.not_true, z_ite, ↓z_gft]); (try simp only [Int.toNat_natCast, Nat.mul_one, Bool.or_false, Bool.false_or, Bool.or_self, Bool.or_true])
  intro _ _
  repeat' (first | apply And.intro | intro _)
  all_goals first | omega | exact decide_eq_decide.2 (by unfold frmP; omega) | exact (decide_eq_false_iff_not.2 (by unfold frmP; omega)).symm
theorem lst_0 {m : Pl} (h : m.v.length = 0) : lstT m = m.n := by
  unfold lstT; rw [List.eq_nil_of_length_eq_zero h]; rfl
theorem lst_s {m : Pl} (h : 0 < m.v.length) : lstT m = max m.n (m.v[m.v.length - 1]'(by omega)).t := by
  unfold lstT; rw [List.getLast?_eq_getElem?, List.getElem?_eq_getElem (by omega)]
set_option maxRecDepth 100000 in
set_option maxHeartbeats 8000000 in
theorem fn_last (G : Glob) (m : Pl) (hv : m.v.length ≤ 1000) : Fn G Tryd.prog 37 [.agg (plC m)] (.int .i64 (lstT m)) := by
  have l1 := @lst_s m
  unfold plC
  refine Fn.mk (c := _) Tryd.func37 rfl rfl Tryd.ntmps37 Tryd.results37 ?_
  (simp -dsimp only [bodyW, List.length_cons, List.length_nil, Nat.zero_add, Nat.reduceLeDiff, wfL, ↓z_seq, ↓z_region, ↓z_ops_plain, ↓z_box, ↓evW_tmp, ↓z_lk_env, ↓reduceIte, ↓z_cl_agg, ↓z_nmC_cons, ↓z_mn'_int, ↓z_mn'_sl, ↓z_nmC_nil, and_self, ↓z_new, ↓z_nm_nil, Nat.reduceLT, ↓z_pg_env, ↓z_mn_agg, ↓z_pg_env0, ↓z_put, ↓z_assign, ↓evW_const, ↓constW_int, inR_i64, Int.reduceNeg, Int.reduceLE, ↓z_ops_nil, ↓z_seq_nrm, ↓z_fieldAddr, ↓lkW_cons, Nat.reduceEqDiff, ↓y_fl34x4, ↓y_sz32, ne_eq, reduceCtorEq, not_false_eq_true, ↓z_fa_ptr, ↓z_load, ↓y_ty32, ↓z_agTy_sl, ↓loadW_ptr, ↓lkoW_cons, ↓z_rd_f, ↓nthW_cons, Nat.reduceSub, ↓z_callb, ↓z_evL_cons, ↓z_evL_nil, ↓z_len, ↓z_ln_sl, ↓z_move, ↓z_binOp, ↓z_bn_gtr, ↓z_cond, ↓z_cnd, ↓z_gdt, ↓z_region_d, ↓y_mix, true_and, ↓z_skip, ↓y_fl34x3, ↓y_sz3, ↓y_ty3, ↓z_agTy_int, ↓z_ret, ↓z_end_rt, resLW, res1W, ↓z_coeL_cons, ↓z_coeL_nil, ↓z_pack1, ↓z_coe_int, D.int.injEq, z_ite])
  refine fun _ => ⟨fun h => ?_, fun h => (lst_0 (by omega)).symm⟩
  refine rgn_d (by decide +kernel) ?_
  (simp -dsimp only [↓z_drw_fieldAddr, ↓z_drwS, ↓z_grd_none, ↓z_withE, ↓z_rd_tmp, ↓lkW_cons, Nat.reduceEqDiff, ↓reduceIte, ↓z_rd_nil, ↓z_ap_cons, ↓z_ap_nil, ↓z_or_fieldAddr, ↓z_fieldAddr, ↓evW_tmp, ↓y_fl34x3, ↓y_sz3, ne_eq, reduceCtorEq, not_false_eq_true, ↓z_fa_ptr, Nat.zero_add, and_true, true_and, ↓z_exD_all, ↓z_exD_eq, ↓z_put, Nat.reduceLT, ↓z_drwK, ↓z_drw_load, ↓z_or_load, ↓z_load, ↓y_ty3, ↓z_agTy_int, ↓loadW_ptr, ↓lkoW_cons, ↓z_rd_f, ↓nthW_cons, Nat.reduceSub, ↓y_fl34x4, ↓y_sz32, ↓y_ty32, ↓z_agTy_sl, ↓z_drw_move, ↓z_or_move, ↓z_move, ↓z_drw_binOp, ↓z_rd_const, ↓z_or_binOp, ↓z_binOp, ↓evW_const, ↓constW_int, inR_i64, Int.reduceNeg, Int.reduceLE, and_self, ↓z_bn_sub, ↓wrW_i64, ↓z_exD_and, ↓z_drw_indexAddr, ↓z_or_indexAddr, ↓z_indexAddr, ↓z_elTy_sl, ↓y_sz41, ↓z_ix_sl, ↓y_fl41x1, ↓z_fa_rop, ↓loadW_rop, nth_bl1, ↓z_exD_ex, ↓z_drw_callb_max, ↓z_or_callv, ↓z_callb, ↓z_evL_cons, ↓z_evL_nil, ↓z_max, ↓z_mx_max, ↓z_mx_nil, ↓z_drw_assign, ↓z_or_assign, ↓z_assign, ↓z_drw_nil, ↓z_seq_nrm, ↓z_ret, ↓z_seq_rt, ↓z_end_rt, resLW, res1W, ↓z_coeL_cons, ↓z_coeL_nil, ↓z_pack1, ↓z_coe_int, D.int.injEq]); (try simp only [Int.toNat_natCast, Nat.mul_one, Bool.or_false, Bool.false_or, Bool.or_self, Bool.or_true])
  refine ⟨by omega, by omega, by omega, by omega, ?_⟩
  rw [l1 (by omega)]
  congr 3
  omega
theorem badAt_at {c : Cn} {k : Nat} (h : k < c.hs.length) (h2 : c.ss.length = c.hs.length) : badAt c k ↔ c.hs[k] < 0 ∨ 12 ≤ c.hs[k] ∨ (0 < k ∧ c.hs[k] ≤ c.hs[k - 1]) ∨ (c.ss[k].length : Int) < 1 ∨ 64 < (c.ss[k].length : Int) := by
  unfold badAt; rw [getD_at h, getD_at (show k - 1 < c.hs.length by omega), getD_at (show k < c.ss.length by omega)]
set_option maxRecDepth 100000 in
set_option maxHeartbeats 8000000 in
theorem fn_Check (G : Glob) (c : Cn) : Fn G Tryd.prog 10 [.agg (cnC c)] (.int .i64 (chkC c)) := by
  unfold cnC
  refine Fn.mk (c := _) Tryd.func10 rfl rfl Tryd.ntmps10 Tryd.results10 ?_
  (simp -dsimp only [bodyW, List.length_cons, List.length_nil, Nat.zero_add, Nat.reduceLeDiff, wfL, ↓z_seq, ↓z_region, ↓z_ops_plain, ↓z_box, ↓evW_tmp, ↓z_lk_env, ↓reduceIte, ↓z_cl_agg, ↓z_nmC_cons, ↓z_mn'_sl, ↓z_mn'_int, ↓z_nmC_nil, and_self, ↓z_new, ↓z_nm_nil, Nat.reduceLT, ↓z_pg_env, ↓z_mn_agg, ↓z_pg_env0, ↓z_put, ↓z_assign, ↓evW_const, ↓constW_int, inR_i64, Int.reduceNeg, Int.reduceLE, ↓z_ops_nil, ↓z_seq_nrm, ↓z_fieldAddr, ↓lkW_cons, Nat.reduceEqDiff, ↓y_fl25x0, ↓y_sz22, ne_eq, reduceCtorEq, not_false_eq_true, ↓z_fa_ptr, ↓z_load, ↓y_ty22, ↓z_agTy_sl, ↓loadW_ptr, ↓lkoW_cons, ↓z_rd_f, ↓nthW_cons, ↓z_callb, ↓z_evL_cons, ↓z_evL_nil, ↓z_len, ↓z_ln_sl, ↓z_move, ↓z_binOp, ↓z_bn_lss, ↓z_ops_guard, ↓z_grd, ↓z_dst_s, ↓z_dst_0, ↓z_grdD_b, ↓z_gdf, ↓z_gnf, ↓z_gft, ↓z_pick, ↓z_pick_b, ↓z_gnt, ↓z_gff, ↓constW_bool, ↓z_gtf, ↓z_cond, ↓z_cnd, ↓z_gtt, ↓z_ret, ↓z_seq_rt, ↓z_end_rt, resLW, res1W, Bool.not_false, ↓z_coeL_cons, ↓z_coeL_nil, ↓z_pack1, ↓z_coe_int, D.int.injEq, true_and, ↓z_bn_gtr, ↓y_fl25x1, ↓y_sz23, ↓y_ty23, Nat.reduceSub, ↓z_bn_neq, ↓y_fl25x2, ↓y_sz3, ↓y_ty3, ↓z_agTy_int, ↓z_bn_quo, ↓z_quo_i64, Int.reduceEq, ↓z_bn_leq, ↓y_fl25x3, ↓z_gdt, ↓z_skip, ↓z_block, ↓z_loop, z_ite, Classical.not_not])
  intro hd
  have htd : (c.hs.length : Int).tdiv 2 = (c.hs.length : Int) / 2 := Int.tdiv_eq_ediv_of_nonneg (by omega)
  refine ⟨fun g => (chkC_frm (by unfold framC; omega)).symm, fun g1 => ⟨fun g => (chkC_frm (by unfold framC; omega)).symm, fun g2 => ⟨fun g => (chkC_frm (by unfold framC; omega)).symm, fun g3 => ⟨by omega,
    fun g => (chkC_frm (by unfold framC; omega)).symm, fun g4 => ⟨fun g => (chkC_frm (by unfold framC; omega)).symm, fun g5 => ⟨fun g => (chkC_frm (by unfold framC; omega)).symm, fun g6 => ⟨fun g => (chkC_frm (by unfold framC; omega)).symm, fun g7 => ?_⟩⟩⟩⟩⟩⟩⟩
  have hf : framC c := by unfold framC; omega
  refine hold_intro ⟨[], Nat, fun i => ⟨92, 1, [(48, .int .i64 i), (47, .int .i64 c.hs.length), (46, .sl 1 c.hs.length (c.hs.map (D.int .i64))), (1, .ptr 0 0)], [(0, [.sl 1 c.hs.length (c.hs.map (D.int .i64)), .sl 1 c.ss.length (c.ss.map D.str), .int .i64 c.nd, .int .i64 c.bd])]⟩,
    fun i => i ≤ c.hs.length ∧ ∀ j, j < i → ¬ badAt c j, fun i => c.hs.length - i, ?_, ?_⟩
  · (simp -dsimp only [↓z_ad_nil, ↓z_wk, ↓z_wkE_cons, ↓lkW_cons, ↓reduceIte, D.int.injEq, true_and, Nat.reduceEqDiff, ↓z_wkE_nil, and_self, and_true, ↓z_wkO_cons, ↓lkoW_cons, ↓z_wkO_nil]); (try simp only [Int.toNat_natCast, Nat.mul_one, Bool.or_false, Bool.false_or, Bool.or_self, Bool.or_true])
    exact ⟨0, by simp⟩
  rintro i ⟨hi, ha⟩
  by_cases h : i < c.hs.length
  · have hb := badAt_at h (by omega)
    have next : ¬ badAt c i → i + 1 ≤ c.hs.length ∧ ∀ j, j < i + 1 → ¬ badAt c j := fun h2 => ⟨by omega, fun j hj => by
      by_cases e : j = i
      · subst e; exact h2
      · exact ha j (by omega)⟩
    (simp -dsimp only [↓z_seq, ↓z_region, ↓z_ops_plain, ↓z_binOp, ↓evW_tmp, ↓lkW_cons, ↓reduceIte, Nat.reduceEqDiff, ↓z_bn_lss, ↓z_put, Nat.reduceLT, ↓z_ops_nil, ↓z_seq_nrm, ↓z_cond, ↓z_cnd, ↓z_gdt, ↓z_skip, ↓z_block, ↓z_move, ↓z_indexAddr, ↓y_ty22, ↓z_elTy_sl, ↓y_sz3, ↓z_ix_sl, ↓z_load, ↓y_ty3, ↓z_agTy_int, ↓loadW_rop, ↓z_rd_f, ↓z_nth_int, ↓z_assign, ↓evW_const, ↓constW_int, inR_i64, Int.reduceNeg, Int.reduceLE, and_self, ↓z_ops_guard, ↓z_grd, ↓z_dst_s, ↓z_dst_0, ↓z_grdD_b, ↓z_gdf, Nat.mul_one, ↓z_gnf, ↓z_gft, ↓z_pick, ↓z_pick_b, ↓z_gnt, ↓z_gff, ↓constW_bool, ↓z_gtf, ↓z_grdD_u, ↓z_gtt, ↓z_ret, ↓z_blk_rt, ↓z_seq_rt, ↓z_lp_rt, ↓z_end_rt, resLW, res1W, Bool.not_false, ↓z_coeL_cons, ↓z_coeL_nil, ↓z_pack1, ↓z_coe_int, D.int.injEq, true_and, ↓z_bn_geq, ↓z_bn_gtr, ↓z_fieldAddr, ↓y_fl25x0, ↓y_sz22, ne_eq, reduceCtorEq, not_false_eq_true, ↓z_fa_ptr, ↓z_agTy_sl, ↓loadW_ptr, ↓lkoW_cons, ↓nthW_cons, Nat.zero_add, ↓z_bn_sub, ↓wrW_i64, ↓z_bn_leq, ↓y_fl25x1, ↓y_sz23, ↓y_ty23, Nat.reduceSub, ↓y_sz9, ↓y_ty9, ↓z_agTy_str, ↓z_nth_str, ↓z_callb, ↓z_evL_cons, ↓z_evL_nil, ↓z_len, ↓z_ln_str, ↓z_blk_nrm, ↓z_bn_add, ↓z_lp_nrm, ↓z_wk, ↓z_wkE_cons, ↓z_wkE_nil, and_true, ↓z_wkO_cons, ↓z_wkO_nil, z_ite, Bool.not_true, ↓z_exit, ↓z_seq_ext, ↓z_lp_ext, ↓z_blk_ext]); (try simp only [Int.toNat_natCast])
    have hidx : ((i : Int) - 1).toNat = i - 1 := by omega
    simp only [hidx]
    repeat' (first | omega | (intro _; exact (chkC_bad h (hb.2 (by omega))).symm) | refine ⟨i + 1, next (fun g => by rw [hb] at g; omega), by omega, by omega⟩ | refine Exists.intro (by omega) ?_ | apply And.intro | intro _)
  · (simp -dsimp only [↓z_seq, ↓z_region, ↓z_ops_plain, ↓z_binOp, ↓evW_tmp, ↓lkW_cons, ↓reduceIte, Nat.reduceEqDiff, ↓z_bn_lss, ↓z_put, Nat.reduceLT, ↓z_ops_nil, ↓z_seq_nrm, ↓z_cond, ↓z_cnd, ↓z_gdt, ↓z_skip, ↓z_block, ↓z_move, ↓z_indexAddr, ↓y_ty22, ↓z_elTy_sl, ↓y_sz3, ↓z_ix_sl, ↓z_load, ↓y_ty3, ↓z_agTy_int, ↓loadW_rop, ↓z_rd_f, ↓z_nth_int, ↓z_assign, ↓evW_const, ↓constW_int, inR_i64, Int.reduceNeg, Int.reduceLE, and_self, ↓z_ops_guard, ↓z_grd, ↓z_dst_s, ↓z_dst_0, ↓z_grdD_b, ↓z_gdf, Nat.mul_one, ↓z_gnf, ↓z_gft, ↓z_pick, ↓z_pick_b, ↓z_gnt, ↓z_gff, ↓constW_bool, ↓z_gtf, ↓z_grdD_u, ↓z_gtt, ↓z_ret, ↓z_blk_rt, ↓z_seq_rt, ↓z_lp_rt, ↓z_end_rt, resLW, res1W, Bool.not_false, ↓z_coeL_cons, ↓z_coeL_nil, ↓z_pack1, ↓z_coe_int, D.int.injEq, true_and, ↓z_bn_geq, ↓z_bn_gtr, ↓z_fieldAddr, ↓y_fl25x0, ↓y_sz22, ne_eq, reduceCtorEq, not_false_eq_true, ↓z_fa_ptr, ↓z_agTy_sl, ↓loadW_ptr, ↓lkoW_cons, ↓nthW_cons, Nat.zero_add, ↓z_bn_sub, ↓wrW_i64, ↓z_bn_leq, ↓y_fl25x1, ↓y_sz23, ↓y_ty23, Nat.reduceSub, ↓y_sz9, ↓y_ty9, ↓z_agTy_str, ↓z_nth_str, ↓z_callb, ↓z_evL_cons, ↓z_evL_nil, ↓z_len, ↓z_ln_str, ↓z_blk_nrm, ↓z_bn_add, ↓z_lp_nrm, ↓z_wk, ↓z_wkE_cons, ↓z_wkE_nil, and_true, ↓z_wkO_cons, ↓z_wkO_nil, z_ite, Bool.not_true, ↓z_exit, ↓z_seq_ext, ↓z_lp_ext, ↓z_blk_ext]); (try simp only [Int.toNat_natCast])
    refine ⟨fun h => by omega, fun _ => ?_⟩
    exact (chkC_yes ⟨hf, fun j hj => ha j (by omega)⟩).symm
set_option maxRecDepth 100000 in
set_option maxHeartbeats 8000000 in
theorem fn_texts (G : Glob) (l : List Int) (hl : l.length ≤ 100) : FnS G Tryd.prog 38 [.sl 1 l.length (l.map (D.int .i64))] 1 (txt l).length ((txt l).map D.str) := by
  refine FnS.mk (c := _) Tryd.func38 rfl rfl Tryd.ntmps38 Tryd.results38 ?_
  (simp -dsimp only [bodyW, List.length_cons, List.length_nil, Nat.zero_add, Nat.reduceLeDiff, wfL, ↓z_seq, ↓z_region, ↓z_ops_plain, ↓z_assign, ↓evW_const, ↓constW_nils, ↓z_put, Nat.reduceLT, ↓z_ops_nil, ↓z_seq_nrm, ↓z_move, ↓evW_tmp, ↓lkW_cons, reduceCtorEq, ↓reduceIte, ↓z_lk_env, ↓z_callb, ↓z_evL_cons, ↓z_evL_nil, ↓z_len, ↓y_ty22, ↓z_ln_sl, ↓constW_int, inR_i64, Int.reduceNeg, Int.reduceLE, and_self, ↓z_block, ↓z_loop, true_and])
  intro hx
  have hi64 : ∀ x ∈ l, (encI x).length ≤ 10 := by
    intro x hx'
    have := hx.2 (.int .i64 x) (List.mem_map_of_mem hx')
    exact encI_len this.1.1 this.1.2
  refine hold_intro ⟨[(3, 1)], Nat, fun i => ⟨20, 1, [(8, .int .i64 i), (7, .int .i64 l.length), (6, .sl 1 l.length (l.map (D.int .i64))), (3, .osl 0 1 i)], [(0, (txt (l.take i)).map D.str)]⟩,
    fun i => i ≤ l.length, fun i => l.length - i, ?_, ?_⟩
  · (simp -dsimp only [↓z_ad_cons, Nat.reduceLT, ↓lkW_cons, Nat.reduceEqDiff, ↓reduceIte, ↓z_nm_nil, ↓z_pg_cons, ↓z_mn_int, ↓z_mn_sl, ↓z_mn_nils, ↓z_pg_env, ↓z_pg_env0, ↓z_ad_nil, ↓z_wk, ↓z_wkE_cons, D.int.injEq, true_and, D.osl.injEq, ↓z_wkE_nil, and_true, ↓z_wkO_cons, ↓lkoW_cons, ↓z_wkO_nil]); (try simp only [Int.toNat_natCast, Nat.mul_one, Bool.or_false, Bool.false_or, Bool.or_self, Bool.or_true])
    exact ⟨0, by simp [txt]⟩
  intro i hi
  by_cases h : i < l.length
  · (simp -dsimp only [↓z_seq, ↓z_region, ↓z_ops_plain, ↓z_binOp, ↓evW_tmp, ↓lkW_cons, ↓reduceIte, Nat.reduceEqDiff, ↓z_bn_lss, ↓z_put, Nat.reduceLT, ↓z_ops_nil, ↓z_seq_nrm, ↓z_cond, ↓z_cnd, ↓z_gdt, ↓z_skip, ↓z_block, ↓z_indexAddr, ↓y_ty22, ↓z_elTy_sl, ↓y_sz3, ↓z_ix_sl, ↓z_load, ↓y_ty3, ↓z_agTy_int, ↓loadW_rop, ↓z_rd_f, ↓z_nth_int, ↓z_assign, ↓z_move, ↓z_callv, ↓evW_func, ↓z_evL_cons, ↓z_evL_nil, ↓z_fun0, ↓z_coeL_cons, ↓z_coe_int, ↓z_coeL_nil, true_and, Nat.mul_one, ↓z_exit, ↓z_seq_ext, ↓z_lp_ext, ↓z_blk_ext, ↓z_ret, ↓z_end_rt, resLW, res1W, ↓z_own_osl, ↓lkoW_cons, ↓z_allP_str, List.length_map, z_ite]); (try simp only [Int.toNat_natCast])
    refine ⟨fun _ => ⟨by omega, by omega, by omega, call_own (fn_Int G _) fun _ => ?_⟩, fun h => by omega⟩
    have h10 := hi64 l[i] (List.getElem_mem _)
    (simp -dsimp only [↓z_new, ↓z_nm_cons, ↓z_nmC_str, ↓z_nm_nil, Nat.reduceLT, ↓z_pg_cons, ↓z_mn_int, ↓z_mn_osl, reduceCtorEq, ↓reduceIte, ↓z_mn_rop, ↓z_mn_bool, ↓z_mn_sl, ↓z_pg_nil, ↓z_put, ↓z_ops_plain, ↓z_convert, ↓evW_tmp, ↓lkW_cons, ↓y_ty27, ↓y_ty9, ↓z_cvt_bs, ↓y_ty5, ↓z_u8, ↓z_cv_bs_osl, ↓z_src_osl, ↓lkoW_cons, ↓z_allP_bytes, Nat.mul_one, List.length_map, ↓bsW_map, ↓z_buildSlice, ↓y_ty23, ↓z_slTy, ↓y_sz9, Nat.reduceLeDiff, maxLen_lit, ↓y_zr9, List.length_cons, List.length_nil, Nat.zero_add, ↓z_repL_s, ↓z_repL_0, ↓z_cat_nil_r, ↓z_bld_cons, ↓z_cl_str, ↓spsW_cons, ↓drW_cons, ↓drW_nil, ↓z_bld_nil, ↓z_allP_cons, ↓z_isP_str, ↓z_allP_nil, and_self, ↓z_callb, ↓z_evL_cons, Nat.reduceEqDiff, ↓z_evL_nil, ↓z_append, ↓z_nint_sl, ↓y_by9, ↓z_src_slx, ↓z_app_osl, ↓z_room, ↓z_pgo_cons, ↓z_nmC_bytes, ↓z_pgc_nm, ↓z_pgo_nil, ↓z_mn_slx, ↓z_mn_str, ↓z_so_cons, ↓z_assign, ↓z_ops_nil, ↓z_blk_nrm, ↓z_seq_nrm, ↓z_region, ↓z_binOp, ↓evW_const, ↓constW_int, inR_i64, Int.reduceNeg, Int.reduceLE, ↓z_bn_add, ↓wrW_i64, ↓z_move, ↓z_lp_nrm, ↓z_wk, ↓z_wkE_cons, D.int.injEq, true_and, D.osl.injEq, ↓z_wkE_nil, and_true, ↓z_wkO_cons, ↓z_wkO_nil]); (try simp only [Int.toNat_natCast, Nat.mul_one, Bool.or_false, Bool.false_or, Bool.or_self, Bool.or_true])
    refine ⟨by rw [txt_len, List.length_take]; omega, by omega, by omega, by omega, i + 1, by omega, by omega, ⟨by omega, rfl⟩, ?_⟩
    rw [takeS h, txt, txt, List.map_append, List.map_append]; rfl
  · (simp -dsimp only [↓z_seq, ↓z_region, ↓z_ops_plain, ↓z_binOp, ↓evW_tmp, ↓lkW_cons, ↓reduceIte, Nat.reduceEqDiff, ↓z_bn_lss, ↓z_put, Nat.reduceLT, ↓z_ops_nil, ↓z_seq_nrm, ↓z_cond, ↓z_cnd, ↓z_gdt, ↓z_skip, ↓z_block, ↓z_indexAddr, ↓y_ty22, ↓z_elTy_sl, ↓y_sz3, ↓z_ix_sl, ↓z_load, ↓y_ty3, ↓z_agTy_int, ↓loadW_rop, ↓z_rd_f, ↓z_nth_int, ↓z_assign, ↓z_move, ↓z_callv, ↓evW_func, ↓z_evL_cons, ↓z_evL_nil, ↓z_fun0, ↓z_coeL_cons, ↓z_coe_int, ↓z_coeL_nil, true_and, Nat.mul_one, ↓z_exit, ↓z_seq_ext, ↓z_lp_ext, ↓z_blk_ext, ↓z_ret, ↓z_end_rt, resLW, res1W, ↓z_own_osl, ↓lkoW_cons, ↓z_allP_str, List.length_map, z_ite]); (try simp only [Int.toNat_natCast])
    refine ⟨fun h => by omega, fun _ => ?_⟩
    have e : i = l.length := by omega
    subst e
    rw [txt_len, txt_len, List.take_length]
    exact ⟨rfl, rfl, rfl⟩
set_option maxRecDepth 100000 in
set_option maxHeartbeats 8000000 in
theorem fn_Seat (G : Glob) (c : Cn) (n : Int) : Fn G Tryd.prog 31 [.agg (cnC c), .int .i64 n] (.int .i64 (seatI c.hs n)) := by
  unfold cnC
  refine Fn.mk (c := _) Tryd.func31 rfl rfl Tryd.ntmps31 Tryd.results31 ?_
  (simp -dsimp only [bodyW, List.length_cons, List.length_nil, Nat.zero_add, Nat.reduceAdd, Nat.reduceLeDiff, wfL, ↓z_seq, ↓z_region, ↓z_ops_plain, ↓z_box, ↓evW_tmp, ↓z_lk_env, ↓reduceIte, ↓z_cl_agg, ↓z_nmC_cons, ↓z_mn'_sl, ↓z_mn'_int, ↓z_nmC_nil, and_self, ↓z_new, ↓z_nm_nil, Nat.reduceLT, ↓z_pg_env, ↓z_mn_agg, ↓z_mn_int, ↓z_pg_env0, ↓z_put, ↓z_assign, ↓evW_const, ↓constW_int, inR_i64, Int.reduceNeg, Int.reduceLE, ↓z_ops_nil, ↓z_seq_nrm, ↓z_block, ↓z_loop, true_and])
  intro hd _
  have hx' : c.hs.length ≤ 9223372036854775807 := (hd.2 (.sl 1 c.hs.length (c.hs.map (D.int .i64))) (by simp)).1.1
  refine hold_intro ⟨[], Nat, fun i => ⟨21, 1, [(5, .int .i64 i), (2, .ptr 0 0), (1, .int .i64 n)], [(0, [.sl 1 c.hs.length (c.hs.map (D.int .i64)), .sl 1 c.ss.length (c.ss.map D.str), .int .i64 c.nd, .int .i64 c.bd])]⟩, fun i => i ≤ c.hs.length ∧ ∀ (j : Nat) (hj : j < i) (hx : j < c.hs.length), decide (c.hs[j] = n) = false, fun i => c.hs.length - i, ?_, ?_⟩
  · (simp -dsimp only [↓z_ad_nil, ↓z_wk, ↓z_wkE_cons, ↓lkW_cons, ↓reduceIte, D.int.injEq, true_and, Nat.reduceEqDiff, reduceCtorEq, Nat.zero_add, ↓z_wkE_nil, and_self, and_true, ↓z_wkO_cons, ↓lkoW_cons, ↓z_wkO_nil]); (try simp only [Int.toNat_natCast, Nat.mul_one, Bool.or_false, Bool.false_or, Bool.or_self, Bool.or_true])
    exact ⟨0, by simp⟩
  · rintro i ⟨hi, ha⟩
    (simp -dsimp only [↓z_seq, ↓z_region, ↓z_ops_plain, ↓z_move, ↓evW_tmp, ↓lkW_cons, ↓reduceIte, ↓z_put, Nat.reduceLT, ↓z_fieldAddr, Nat.reduceEqDiff, ↓y_fl25x0, ↓y_sz22, ne_eq, reduceCtorEq, not_false_eq_true, ↓z_fa_ptr, ↓z_load, ↓y_ty22, ↓z_agTy_sl, ↓loadW_ptr, ↓lkoW_cons, ↓z_rd_f, ↓nthW_cons, Nat.zero_add, ↓z_callb, ↓z_evL_cons, ↓z_evL_nil, ↓z_len, ↓z_ln_sl, ↓z_binOp, ↓z_bn_lss, ↓z_ops_nil, ↓z_seq_nrm, ↓z_cond, ↓z_cnd, ↓z_gdt, ↓z_skip, ↓z_block, ↓z_indexAddr, ↓z_elTy_sl, ↓y_sz3, ↓z_ix_sl, ↓y_ty3, ↓z_agTy_int, ↓loadW_rop, ↓z_nth_int, ↓z_bn_eql, Nat.mul_one, ↓z_assign, ↓z_ret, ↓z_blk_rt, ↓z_seq_rt, ↓z_lp_rt, ↓z_end_rt, resLW, res1W, ↓z_coeL_cons, ↓z_coeL_nil, ↓z_pack1, ↓z_coe_int, D.int.injEq, true_and, ↓z_blk_nrm, ↓evW_const, ↓constW_int, inR_i64, Int.reduceNeg, Int.reduceLE, and_self, ↓z_bn_add, ↓wrW_i64, ↓z_lp_nrm, ↓z_wk, ↓z_wkE_cons, ↓z_wkE_nil, and_true, ↓z_wkO_cons, ↓z_wkO_nil, z_ite, ↓z_exit, ↓z_seq_ext, ↓z_lp_ext, ↓z_blk_ext]); (try simp only [Int.toNat_natCast])
    refine ⟨fun h => ⟨by omega, by omega, by omega, fun hl => ?_, fun hl => ⟨by omega, i + 1, ⟨by omega, fun j hj hx => ?_⟩, by omega, by omega⟩⟩, fun h => ?_⟩
    · exact (fIdx_some (by omega) (by rw [decide_eq_true_eq]; exact hl) fun j hj => ha j hj (by omega)).symm
    · by_cases e : j = i
      · subst e; rw [decide_eq_false_iff_not]; exact hl
      · exact ha j (by omega) hx
    · exact (fIdx_none fun j hj => ha j (by omega) hj).symm
set_option maxRecDepth 100000 in
set_option maxHeartbeats 8000000 in
theorem fn_refCheck (G : Glob) (c : Cn) : Fn G Tryd.prog 24 [.agg (cnC c)] (.int .i64 (chkC c)) := by
  unfold cnC
  refine Fn.mk (c := _) Tryd.func24 rfl rfl Tryd.ntmps24 Tryd.results24 ?_
  (simp -dsimp only [bodyW, List.length_cons, List.length_nil, Nat.zero_add, Nat.reduceLeDiff, wfL, ↓z_seq, ↓z_region, ↓z_ops_plain, ↓z_box, ↓evW_tmp, ↓z_lk_env, ↓reduceIte, ↓z_cl_agg, ↓z_nmC_cons, ↓z_mn'_sl, ↓z_mn'_int, ↓z_nmC_nil, and_self, ↓z_new, ↓z_nm_nil, Nat.reduceLT, ↓z_pg_env, ↓z_mn_agg, ↓z_pg_env0, ↓z_put, ↓z_assign, ↓evW_const, ↓constW_int, inR_i64, Int.reduceNeg, Int.reduceLE, ↓z_ops_nil, ↓z_seq_nrm, ↓z_fieldAddr, ↓lkW_cons, Nat.reduceEqDiff, ↓y_fl25x0, ↓y_sz22, ne_eq, reduceCtorEq, not_false_eq_true, ↓z_fa_ptr, ↓z_load, ↓y_ty22, ↓z_agTy_sl, ↓loadW_ptr, ↓lkoW_cons, ↓z_rd_f, ↓nthW_cons, ↓z_callb, ↓z_evL_cons, ↓z_evL_nil, ↓z_len, ↓z_ln_sl, ↓z_move, ↓z_binOp, ↓z_bn_lss, ↓z_ops_guard, ↓z_grd, ↓z_dst_s, ↓z_dst_0, ↓z_grdD_b, ↓z_gdf, ↓z_gnf, ↓z_gft, ↓z_pick, ↓z_pick_b, ↓z_gnt, ↓z_gff, ↓constW_bool, ↓z_gtf, ↓z_cond, ↓z_cnd, ↓z_gtt, ↓z_ret, ↓z_seq_rt, ↓z_end_rt, resLW, res1W, Bool.not_false, ↓z_coeL_cons, ↓z_coeL_nil, ↓z_pack1, ↓z_coe_int, D.int.injEq, true_and, ↓z_bn_gtr, ↓y_fl25x1, ↓y_sz23, ↓y_ty23, Nat.reduceSub, ↓z_bn_neq, ↓y_fl25x2, ↓y_sz3, ↓y_ty3, ↓z_agTy_int, ↓z_bn_mul, ↓wrW_i64, ↓z_bn_leq, ↓y_fl25x3, ↓z_gdt, ↓z_skip, ↓z_block, ↓z_loop, z_ite, Classical.not_not])
  intro hd
  refine ⟨fun g => (chkC_frm (by unfold framC; omega)).symm, fun g1 => ⟨fun g => (chkC_frm (by unfold framC; omega)).symm, fun g2 => ⟨fun g => (chkC_frm (by unfold framC; omega)).symm, fun g3 => ⟨
    fun g => (chkC_frm (by unfold framC; omega)).symm, fun g4 => ⟨fun g => (chkC_frm (by unfold framC; omega)).symm, fun g5 => ⟨by omega, fun g => (chkC_frm (by unfold framC; omega)).symm, fun g6 => ⟨fun g => (chkC_frm (by unfold framC; omega)).symm, fun g7 => ⟨fun g => (chkC_frm (by unfold framC; omega)).symm, fun g8 => ?_⟩⟩⟩⟩⟩⟩⟩⟩
  have hf : framC c := by unfold framC; omega
  refine hold_intro ⟨[], Nat, fun i => ⟨104, 1, [(4, .int .i64 i), (3, .int .i64 c.hs.length), (1, .ptr 0 0)], [(0, [.sl 1 c.hs.length (c.hs.map (D.int .i64)), .sl 1 c.ss.length (c.ss.map D.str), .int .i64 c.nd, .int .i64 c.bd])]⟩,
    fun i => i ≤ c.hs.length ∧ ∀ j, j < i → ¬ badAt c j, fun i => c.hs.length - i, ?_, ?_⟩
  · (simp -dsimp only [↓z_ad_nil, ↓z_wk, ↓z_wkE_cons, ↓lkW_cons, ↓reduceIte, D.int.injEq, true_and, Nat.reduceEqDiff, ↓z_wkE_nil, and_self, and_true, ↓z_wkO_cons, ↓lkoW_cons, ↓z_wkO_nil]); (try simp only [Int.toNat_natCast, Nat.mul_one, Bool.or_false, Bool.false_or, Bool.or_self, Bool.or_true])
    exact ⟨0, by simp⟩
  rintro i ⟨hi, ha⟩
  by_cases h : i < c.hs.length
  · have hb := badAt_at h (by omega)
    have next : ¬ badAt c i → i + 1 ≤ c.hs.length ∧ ∀ j, j < i + 1 → ¬ badAt c j := fun h2 => ⟨by omega, fun j hj => by
      by_cases e : j = i
      · subst e; exact h2
      · exact ha j (by omega)⟩
    (simp -dsimp only [↓z_seq, ↓z_region, ↓z_ops_plain, ↓z_move, ↓evW_tmp, ↓lkW_cons, ↓reduceIte, ↓z_put, Nat.reduceLT, Nat.reduceEqDiff, ↓z_binOp, ↓z_bn_lss, ↓z_ops_nil, ↓z_seq_nrm, ↓z_cond, ↓z_cnd, ↓z_gdt, ↓z_skip, ↓z_block, ↓z_region_d, ↓y_mix, true_and, ↓z_exit, ↓z_seq_ext, ↓z_lp_ext, ↓z_blk_ext, ↓z_assign, ↓evW_const, ↓constW_int, inR_i64, Int.reduceNeg, Int.reduceLE, and_self, ↓z_ret, ↓z_end_rt, resLW, res1W, ↓z_coeL_cons, ↓z_coeL_nil, ↓z_pack1, ↓z_coe_int, D.int.injEq, z_ite])
    refine ⟨fun _ => rgn_q (by decide +kernel) rfl ?_, fun h => by omega⟩
    (simp -dsimp only [↓z_ops_plain, ↓z_fieldAddr, ↓evW_tmp, ↓lkW_cons, Nat.reduceEqDiff, ↓reduceIte, ↓y_fl25x0, ↓y_sz22, ne_eq, reduceCtorEq, not_false_eq_true, ↓z_fa_ptr, ↓z_put, Nat.reduceLT, ↓z_load, ↓y_ty22, ↓z_agTy_sl, ↓loadW_ptr, ↓lkoW_cons, ↓z_rd_f, ↓nthW_cons, Nat.zero_add, ↓z_move, ↓z_indexAddr, ↓z_elTy_sl, ↓y_sz3, ↓z_ix_sl, ↓y_ty3, ↓z_agTy_int, ↓loadW_rop, ↓z_nth_int, ↓z_binOp, ↓evW_const, ↓constW_int, inR_i64, Int.reduceNeg, Int.reduceLE, and_self, ↓z_bn_lss, ↓z_ops_guard, ↓z_grd, ↓z_dst_s, ↓z_dst_0, ↓z_grdD_b, ↓z_gdf, Nat.mul_one, ↓z_gnf, ↓z_gft, ↓z_pick, ↓z_pick_b, ↓z_gnt, ↓z_gff, ↓constW_bool, ↓z_gtf, ↓z_grdD_u, ↓z_ops_nil, ↓z_seq_nrm, ↓z_cond, ↓z_cnd, ↓z_gtt, ↓z_seq, ↓z_region, ↓z_assign, ↓z_ret, ↓z_blk_rt, ↓z_seq_rt, ↓z_lp_rt, ↓z_end_rt, resLW, res1W, Bool.not_false, ↓z_coeL_cons, ↓z_coeL_nil, ↓z_pack1, ↓z_coe_int, D.int.injEq, true_and, ↓z_bn_gtr, ↓z_gdt, ↓z_bn_sub, ↓wrW_i64, ↓z_bn_leq, ↓y_fl25x1, ↓y_sz23, ↓y_ty23, Nat.reduceSub, ↓y_sz9, ↓y_ty9, ↓z_agTy_str, ↓z_nth_str, ↓z_callb, ↓z_evL_cons, ↓z_evL_nil, ↓z_len, ↓z_ln_str, ↓z_skip, ↓z_blk_nrm, ↓z_bn_add, ↓z_lp_nrm, ↓z_wk, ↓z_wkE_cons, ↓z_wkE_nil, and_true, ↓z_wkO_cons, ↓z_wkO_nil, z_ite, Bool.not_true]); (try simp only [Int.toNat_natCast])
    have hidx : ((i : Int) - 1).toNat = i - 1 := by omega
    simp only [hidx]
    repeat' (first | omega | (intro _; exact (chkC_bad h (hb.2 (by omega))).symm) | refine ⟨i + 1, next (fun g => by rw [hb] at g; omega), by omega, by omega⟩ | refine Exists.intro (by omega) ?_ | apply And.intro | intro _)
  · (simp -dsimp only [↓z_seq, ↓z_region, ↓z_ops_plain, ↓z_move, ↓evW_tmp, ↓lkW_cons, ↓reduceIte, ↓z_put, Nat.reduceLT, Nat.reduceEqDiff, ↓z_binOp, ↓z_bn_lss, ↓z_ops_nil, ↓z_seq_nrm, ↓z_cond, ↓z_cnd, ↓z_gdt, ↓z_skip, ↓z_block, ↓z_region_d, ↓y_mix, true_and, ↓z_exit, ↓z_seq_ext, ↓z_lp_ext, ↓z_blk_ext, ↓z_assign, ↓evW_const, ↓constW_int, inR_i64, Int.reduceNeg, Int.reduceLE, and_self, ↓z_ret, ↓z_end_rt, resLW, res1W, ↓z_coeL_cons, ↓z_coeL_nil, ↓z_pack1, ↓z_coe_int, D.int.injEq, z_ite])
    refine ⟨fun h => by omega, fun _ => ?_⟩
    exact (chkC_yes ⟨hf, fun j hj => ha j (by omega)⟩).symm
set_option maxRecDepth 100000 in
set_option maxHeartbeats 8000000 in
theorem fn_refframed (G : Glob) (c : Cn) (m : Pl) (hb : okC c) : Fn G Tryd.prog 46 [.agg (cnC c), .agg (plC m)] (.bool (decide (frmP c m))) := by
  have hb2 := hb.1.2.2.2.2.2
  unfold cnC plC
  refine Fn.mk (c := _) Tryd.func46 rfl rfl Tryd.ntmps46 Tryd.results46 ?_
  (simp -dsimp only [bodyW, List.length_cons, List.length_nil, Nat.zero_add, Nat.reduceAdd, Nat.reduceLeDiff, wfL, ↓z_seq, ↓z_region, ↓z_ops_plain, ↓z_box, ↓evW_tmp, ↓z_lk_env, ↓reduceIte, ↓z_cl_agg, ↓z_nmC_cons, ↓z_mn'_sl, ↓z_mn'_int, ↓z_nmC_nil, and_self, ↓z_new, ↓z_nm_nil, Nat.reduceLT, ↓z_pg_env, ↓z_mn_agg, ↓z_pg_env0, ↓z_put, ↓lkW_cons, Nat.reduceEqDiff, reduceCtorEq, ↓z_nm_cons, ↓z_pg_cons, ↓z_mn_ptr, ↓z_pg_nil, ↓z_assign, ↓evW_const, ↓constW_bool, ↓z_ops_nil, ↓z_seq_nrm, ↓z_fieldAddr, ↓y_fl34x0, ↓y_sz3, ne_eq, not_false_eq_true, ↓z_fa_ptr, ↓z_load, ↓y_ty3, ↓z_agTy_int, ↓loadW_ptr, ↓lkoW_cons, ↓z_rd_f, ↓nthW_cons, ↓z_binOp, ↓constW_int, inR_i64, Int.reduceNeg, Int.reduceLE, ↓z_bn_lss, ↓z_move, ↓z_ops_guard, ↓z_grd, ↓z_dst_s, ↓z_dst_0, ↓z_grdD_b, ↓z_gdf, ↓z_gnf, ↓z_gft, ↓z_pick, ↓z_pick_b, ↓z_gnt, ↓z_gff, ↓z_gtf, ↓z_cond, ↓z_cnd, ↓z_gtt, ↓z_ret, ↓z_seq_rt, ↓z_end_rt, resLW, res1W, Bool.not_false, ↓z_coeL_cons, ↓z_coeL_nil, ↓z_pack1, ↓z_coe_bool, D.bool.injEq, true_and, ↓z_bn_gtr, ↓y_fl34x3, Nat.reduceSub, ↓y_fl34x1, ↓y_fl34x2, ↓z_bn_leq, ↓z_gdt, ↓z_skip, ↓y_fl25x3, ↓z_bn_add, ↓wrW_i64, z_ite]); (try simp only [Int.toNat_natCast, Nat.mul_one, Bool.or_false, Bool.false_or, Bool.or_self, Bool.or_true])
  intro _ _
  repeat' (first | apply And.intro | intro _)
  all_goals first | omega | exact decide_eq_decide.2 (by unfold frmP; omega) | exact (decide_eq_false_iff_not.2 (by unfold frmP; omega)).symm
set_option maxRecDepth 100000 in
set_option maxHeartbeats 8000000 in
theorem fn_reftexts (G : Glob) (l : List Int) (hl : l.length ≤ 100) : FnS G Tryd.prog 43 [.sl 1 l.length (l.map (D.int .i64))] 1 (txt l).length ((txt l).map D.str) := by
  refine FnS.mk (c := _) Tryd.func43 rfl rfl Tryd.ntmps43 Tryd.results43 ?_
  (simp -dsimp only [bodyW, List.length_cons, List.length_nil, Nat.zero_add, Nat.reduceLeDiff, wfL, ↓z_seq, ↓z_region, ↓z_ops_plain, ↓z_assign, ↓evW_const, ↓constW_nils, ↓z_put, Nat.reduceLT, ↓z_ops_nil, ↓z_seq_nrm, ↓constW_int, inR_i64, Int.reduceNeg, Int.reduceLE, and_self, ↓z_block, ↓z_loop, true_and])
  intro hx
  have hi64 : ∀ x ∈ l, (encI x).length ≤ 10 := by
    intro x hx'
    have := hx.2 (.int .i64 x) (List.mem_map_of_mem hx')
    exact encI_len this.1.1 this.1.2
  refine hold_intro ⟨[(3, 1)], Nat, fun i => ⟨21, 1, [(4, .int .i64 i), (0, .sl 1 l.length (l.map (D.int .i64))), (3, .osl 0 1 i)], [(0, (txt (l.take i)).map D.str)]⟩,
    fun i => i ≤ l.length, fun i => l.length - i, ?_, ?_⟩
  · (simp -dsimp only [↓z_ad_cons, Nat.reduceLT, ↓lkW_cons, Nat.reduceEqDiff, ↓reduceIte, ↓z_nm_nil, ↓z_pg_cons, ↓z_mn_int, ↓z_mn_nils, ↓z_pg_env, ↓z_mn_sl, ↓z_pg_env0, ↓z_ad_nil, ↓z_wk, ↓z_wkE_cons, D.int.injEq, true_and, reduceCtorEq, D.osl.injEq, ↓z_wkE_nil, and_true, ↓z_wkO_cons, ↓lkoW_cons, ↓z_wkO_nil]); (try simp only [Int.toNat_natCast, Nat.mul_one, Bool.or_false, Bool.false_or, Bool.or_self, Bool.or_true])
    exact ⟨0, by simp [txt]⟩
  intro i hi
  by_cases h : i < l.length
  · (simp -dsimp only [↓z_seq, ↓z_region, ↓z_ops_plain, ↓z_move, ↓evW_tmp, ↓lkW_cons, ↓reduceIte, ↓z_put, Nat.reduceLT, reduceCtorEq, ↓z_callb, ↓z_evL_cons, ↓z_evL_nil, ↓z_len, ↓y_ty22, ↓z_ln_sl, ↓z_binOp, Nat.reduceEqDiff, ↓z_bn_lss, ↓z_ops_nil, ↓z_seq_nrm, ↓z_cond, ↓z_cnd, ↓z_gdt, ↓z_skip, ↓z_block, ↓z_indexAddr, ↓z_elTy_sl, ↓y_sz3, ↓z_ix_sl, ↓z_load, ↓y_ty3, ↓z_agTy_int, ↓loadW_rop, ↓z_rd_f, ↓z_nth_int, ↓z_callv, ↓evW_func, ↓z_fun0, ↓z_coeL_cons, ↓z_coe_int, ↓z_coeL_nil, true_and, Nat.mul_one, ↓z_exit, ↓z_seq_ext, ↓z_lp_ext, ↓z_blk_ext, ↓z_assign, ↓z_ret, ↓z_end_rt, resLW, res1W, ↓z_own_osl, ↓lkoW_cons, ↓z_allP_str, List.length_map, z_ite]); (try simp only [Int.toNat_natCast])
    refine ⟨fun _ => ⟨by omega, by omega, by omega, call_own (fn_refInt G _) fun _ => ?_⟩, fun h => by omega⟩
    have h10 := hi64 l[i] (List.getElem_mem _)
    (simp -dsimp only [↓z_new, ↓z_nm_cons, ↓z_nmC_str, ↓z_nm_nil, Nat.reduceLT, ↓z_pg_cons, ↓z_mn_int, ↓z_mn_rop, ↓z_mn_sl, ↓z_mn_osl, reduceCtorEq, ↓reduceIte, ↓z_mn_bool, ↓z_pg_nil, ↓z_put, ↓z_ops_plain, ↓z_convert, ↓evW_tmp, ↓lkW_cons, ↓y_ty27, ↓y_ty9, ↓z_cvt_bs, ↓y_ty5, ↓z_u8, ↓z_cv_bs_osl, ↓z_src_osl, ↓lkoW_cons, ↓z_allP_bytes, Nat.mul_one, List.length_map, ↓bsW_map, ↓z_buildSlice, ↓y_ty23, ↓z_slTy, ↓y_sz9, Nat.reduceLeDiff, maxLen_lit, ↓y_zr9, List.length_cons, List.length_nil, Nat.zero_add, ↓z_repL_s, ↓z_repL_0, ↓z_cat_nil_r, ↓z_bld_cons, ↓z_cl_str, ↓spsW_cons, ↓drW_cons, ↓drW_nil, ↓z_bld_nil, ↓z_allP_cons, ↓z_isP_str, ↓z_allP_nil, and_self, ↓z_callb, ↓z_evL_cons, Nat.reduceEqDiff, ↓z_evL_nil, ↓z_append, ↓z_nint_sl, ↓y_by9, ↓z_src_slx, ↓z_app_osl, ↓z_room, ↓z_pgo_cons, ↓z_nmC_bytes, ↓z_pgc_nm, ↓z_pgo_nil, ↓z_mn_slx, ↓z_mn_str, ↓z_so_cons, ↓z_assign, ↓z_ops_nil, ↓z_blk_nrm, ↓z_seq_nrm, ↓z_region, ↓z_move, ↓z_binOp, ↓evW_const, ↓constW_int, inR_i64, Int.reduceNeg, Int.reduceLE, ↓z_bn_add, ↓wrW_i64, ↓z_lp_nrm, ↓z_wk, ↓z_wkE_cons, D.int.injEq, true_and, D.osl.injEq, ↓z_wkE_nil, and_true, ↓z_wkO_cons, ↓z_wkO_nil]); (try simp only [Int.toNat_natCast, Nat.mul_one, Bool.or_false, Bool.false_or, Bool.or_self, Bool.or_true])
    refine ⟨by rw [txt_len, List.length_take]; omega, by omega, by omega, by omega, i + 1, by omega, by omega, ⟨by omega, rfl⟩, ?_⟩
    rw [takeS h, txt, txt, List.map_append, List.map_append]; rfl
  · (simp -dsimp only [↓z_seq, ↓z_region, ↓z_ops_plain, ↓z_move, ↓evW_tmp, ↓lkW_cons, ↓reduceIte, ↓z_put, Nat.reduceLT, reduceCtorEq, ↓z_callb, ↓z_evL_cons, ↓z_evL_nil, ↓z_len, ↓y_ty22, ↓z_ln_sl, ↓z_binOp, Nat.reduceEqDiff, ↓z_bn_lss, ↓z_ops_nil, ↓z_seq_nrm, ↓z_cond, ↓z_cnd, ↓z_gdt, ↓z_skip, ↓z_block, ↓z_indexAddr, ↓z_elTy_sl, ↓y_sz3, ↓z_ix_sl, ↓z_load, ↓y_ty3, ↓z_agTy_int, ↓loadW_rop, ↓z_rd_f, ↓z_nth_int, ↓z_callv, ↓evW_func, ↓z_fun0, ↓z_coeL_cons, ↓z_coe_int, ↓z_coeL_nil, true_and, Nat.mul_one, ↓z_exit, ↓z_seq_ext, ↓z_lp_ext, ↓z_blk_ext, ↓z_assign, ↓z_ret, ↓z_end_rt, resLW, res1W, ↓z_own_osl, ↓lkoW_cons, ↓z_allP_str, List.length_map, z_ite]); (try simp only [Int.toNat_natCast])
    refine ⟨fun h => by omega, fun _ => ?_⟩
    have e : i = l.length := by omega
    subst e
    rw [txt_len, txt_len, List.take_length]
    exact ⟨rfl, rfl, rfl⟩
end Go.Abs

