/-
  DOM, first walks: slices' functions; the checks.
-/
import Derived.Test.YtffcdocmabefiaaTy
namespace Go.Abs
open Go.Proofs

/-- A rack's cells. -/
def rkC (r : Int × Bool) : List D := [.int .i64 r.1, .bool r.2]
theorem rk_len (rs : List (Int × Bool)) : (List.flatMap rkC rs).length = rs.length * 2 := by
  induction rs with
  | nil => rfl
  | cons r rs ih => simp only [List.flatMap_cons, List.length_append, ih, List.length_cons]; simp [rkC]; omega
theorem rk_at : ∀ {rs : List (Int × Bool)} {j : Nat} (h : j < rs.length), ((List.flatMap rkC rs).drop (j * 2)).take 2 = [.int .i64 rs[j].1, .bool rs[j].2]
  | r :: rs, 0, h => by simp [List.flatMap_cons, rkC]
  | r :: rs, j + 1, h => by
    have e : (rkC r).length = 2 := rfl
    rw [List.flatMap_cons, List.drop_append, List.drop_eq_nil_of_le (by rw [e]; omega), List.nil_append, e, show (j + 1) * 2 - 2 = j * 2 by omega, rk_at (by simpa using h)]
    rfl
theorem nthW_iff {cs : List D} {i : Nat} {d : D} {k : D → Prop} (h : cs[i]? = some d) : nthW cs i k = k d := by
  obtain ⟨h1, rfl⟩ := List.getElem?_eq_some_iff.1 h
  exact propext ⟨fun ⟨_, h⟩ => h, fun h => ⟨h1, h⟩⟩
theorem nthW_none {cs : List D} {i : Nat} {k : D → Prop} (h : cs[i]? = none) : nthW cs i k = False :=
  eq_false fun ⟨h1, _⟩ => by rw [List.getElem?_eq_none_iff] at h; omega
theorem rk_get {rs : List (Int × Bool)} {j : Nat} (h : j < rs.length) : (List.flatMap rkC rs)[j * 2]? = some (.int .i64 rs[j].1) ∧ (List.flatMap rkC rs)[j * 2 + 1]? = some (.bool rs[j].2) := by
  have h1 := rk_at h
  have g : ∀ c, c < 2 → (List.flatMap rkC rs)[j * 2 + c]? = (((List.flatMap rkC rs).drop (j * 2)).take 2)[c]? := fun c hc => by
    rw [List.getElem?_take_of_lt hc, List.getElem?_drop]
  exact ⟨by rw [show j * 2 = j * 2 + 0 from rfl, g 0 (by omega), h1]; rfl, by rw [g 1 (by omega), h1]; rfl⟩
theorem nth_rk0 (rs : List (Int × Bool)) (j : Nat) (k : D → Prop) : nthW (List.flatMap rkC rs) (j * 2 + 0) k = ∃ h : j < rs.length, k (.int .i64 rs[j].1) := by
  rw [Nat.add_zero]
  by_cases h : j < rs.length
  · rw [nthW_iff (rk_get h).1]; simp [h]
  · rw [nthW_none (by rw [List.getElem?_eq_none_iff, rk_len]; omega)]; simp [h]
theorem nth_rk1 (rs : List (Int × Bool)) (j : Nat) (k : D → Prop) : nthW (List.flatMap rkC rs) (j * 2 + 1) k = ∃ h : j < rs.length, k (.bool rs[j].2) := by
  by_cases h : j < rs.length
  · rw [nthW_iff (rk_get h).2]; simp [h]
  · rw [nthW_none (by rw [List.getElem?_eq_none_iff, rk_len]; omega)]; simp [h]

def fIdx {α : Type} (p : α → Bool) (xs : List α) : Int := match xs.findIdx? p with | some i => i | none => -1
theorem fIdx_some {α : Type} {p : α → Bool} {xs : List α} {i : Nat} (h : i < xs.length) (h1 : p xs[i] = true) (h2 : ∀ (j : Nat) (hj : j < i), p (xs[j]'(by omega)) = false) : fIdx p xs = i := by
  have e : xs.findIdx? p = some i := by
    rw [List.findIdx?_eq_some_iff_getElem]
    exact ⟨h, h1, fun j hj => by simpa using h2 j hj⟩
  unfold fIdx; rw [e]
theorem fIdx_none {α : Type} {p : α → Bool} {xs : List α} (h2 : ∀ (j : Nat) (hj : j < xs.length), p xs[j] = false) : fIdx p xs = -1 := by
  have e : xs.findIdx? p = none := by
    rw [List.findIdx?_eq_none_iff]
    intro x hx
    obtain ⟨j, hj, rfl⟩ := List.getElem_of_mem hx
    simpa using h2 j hj
  unfold fIdx; rw [e]
theorem fIdx_any {α : Type} {p : α → Bool} {xs : List α} : decide (0 ≤ fIdx p xs) = xs.any p := by
  unfold fIdx
  cases e : xs.findIdx? p with
  | some i =>
    obtain ⟨hi, h1, _⟩ := List.findIdx?_eq_some_iff_getElem.1 e
    have : xs.any p = true := List.any_eq_true.2 ⟨xs[i], List.getElem_mem _, h1⟩
    rw [this]; simp
  | none =>
    rw [List.findIdx?_eq_none_iff] at e
    have : xs.any p = false := by rw [List.any_eq_false]; intro x hx; simpa using e x hx
    rw [this]; simp

set_option maxRecDepth 100000 in
set_option maxHeartbeats 8000000 in
theorem fn_IndexFuncI (G : Glob) (xs : List Int) (f : FuncId) (c : D) (p : Int → Bool) (hp : ∀ x, Fn G Try.prog f [.int .i64 x, c] (.bool (p x))) : Fn G Try.prog 40 [.sl 1 xs.length (xs.map (D.int .i64)), .fn f [c]] (.int .i64 (fIdx p xs)) := by
  refine Fn.mk (c := _) Try.func40 rfl rfl Try.ntmps40 Try.results40 ?_
  (simp -dsimp only [bodyW, List.length_cons, List.length_nil, Nat.zero_add, Nat.reduceAdd, Nat.reduceLeDiff, wfL, ↓z_seq, ↓z_region, ↓z_ops_plain, ↓z_assign, ↓evW_const, ↓constW_int, inR_i64, Int.reduceNeg, Int.reduceLE, and_self, ↓z_put, Nat.reduceLT, ↓z_ops_nil, ↓z_seq_nrm, ↓z_move, ↓evW_tmp, ↓lkW_cons, reduceCtorEq, ↓reduceIte, ↓z_lk_env, ↓z_callb, ↓z_evL_cons, ↓z_evL_nil, ↓z_len, ↓y_ty22, ↓z_ln_sl, ↓z_block, ↓z_loop, true_and])
  intro hx _
  have hx' : xs.length ≤ 9223372036854775807 := hx.1.1
  refine hold_intro ⟨[], Nat, fun i => ⟨19, 0, [(8, .int .i64 i), (7, .int .i64 xs.length), (0, .sl 1 xs.length (xs.map (D.int .i64))), (1, .fn f [c])], []⟩, fun i => i ≤ xs.length ∧ ∀ (j : Nat) (hj : j < i) (hx : j < xs.length), p xs[j] = false, fun i => xs.length - i, ?_, ?_⟩
  · (simp -dsimp only [↓z_ad_nil, ↓z_wk, ↓z_wkE_cons, ↓lkW_cons, ↓reduceIte, D.int.injEq, true_and, Nat.reduceEqDiff, reduceCtorEq, ↓z_lk_env, Nat.zero_add, ↓z_wkE_nil, and_self, and_true, ↓z_wkO_nil]); (try simp only [Int.toNat_natCast, Nat.mul_one, Bool.or_false, Bool.false_or, Bool.or_self, Bool.or_true])
    exact ⟨0, by simp⟩
  · rintro i ⟨hi, ha⟩
    (simp -dsimp only [↓z_seq, ↓z_region, ↓z_ops_plain, ↓z_binOp, ↓evW_tmp, ↓lkW_cons, ↓reduceIte, Nat.reduceEqDiff, ↓z_bn_lss, ↓z_put, Nat.reduceLT, ↓z_ops_nil, ↓z_seq_nrm, ↓z_cond, ↓z_cnd, ↓z_gdt, ↓z_skip, ↓z_block, ↓z_move, ↓z_assign, reduceCtorEq, ↓z_indexAddr, ↓y_ty22, ↓z_elTy_sl, ↓y_sz3, ↓z_ix_sl, ↓z_load, ↓y_ty3, ↓z_agTy_int, ↓loadW_rop, ↓z_rd_f, ↓z_nth_int, ↓z_callv, ↓z_evL_cons, ↓z_evL_nil, ↓z_fun, ↓z_coeL_cons, ↓z_coe_int, ↓z_coeL_nil, true_and, Nat.mul_one, ↓z_exit, ↓z_seq_ext, ↓z_lp_ext, ↓z_blk_ext, ↓evW_const, ↓constW_int, Int.reduceNeg, inR_i64, Int.reduceLE, and_self, ↓z_ret, ↓z_end_rt, resLW, res1W, ↓z_pack1, D.int.injEq, z_ite]); (try simp only [Int.toNat_natCast])
    refine ⟨fun h => ⟨by omega, by omega, by omega, call_fn (hp _) fun _ => ?_⟩, fun h => ?_⟩
    · (simp -dsimp only [↓z_put, Nat.reduceLT, ↓z_ops_nil, ↓z_seq_nrm, ↓z_cond, ↓evW_tmp, ↓lkW_cons, ↓reduceIte, ↓z_cnd, Nat.mul_one, ↓z_seq, ↓z_region, ↓z_ops_plain, ↓z_move, Nat.reduceEqDiff, ↓z_assign, ↓z_ret, ↓z_blk_rt, ↓z_seq_rt, ↓z_lp_rt, ↓z_end_rt, resLW, res1W, ↓z_coeL_cons, ↓z_coeL_nil, ↓z_pack1, ↓z_coe_int, D.int.injEq, true_and, ↓z_skip, ↓z_blk_nrm, ↓z_binOp, ↓evW_const, ↓constW_int, inR_i64, Int.reduceNeg, Int.reduceLE, and_self, ↓z_bn_add, ↓wrW_i64, ↓z_lp_nrm, ↓z_wk, ↓z_wkE_cons, reduceCtorEq, ↓z_wkE_nil, and_true, ↓z_wkO_nil, z_gvar]); (try simp only [Int.toNat_natCast, Nat.mul_one, Bool.or_false, Bool.false_or, Bool.or_self, Bool.or_true])
      refine ⟨fun hl => ?_, fun hl => ⟨by omega, i + 1, ⟨by omega, fun j hj hx => ?_⟩, by omega, by omega⟩⟩
      · exact (fIdx_some (by omega) hl fun j hj => ha j hj (by omega)).symm
      · by_cases e : j = i
        · subst e; exact hl
        · exact ha j (by omega) hx
    · exact (fIdx_none fun j hj => ha j (by omega) hj).symm
set_option maxRecDepth 100000 in
set_option maxHeartbeats 8000000 in
theorem fn_ContainsFuncI (G : Glob) (xs : List Int) (f : FuncId) (c : D) (p : Int → Bool) (hp : ∀ x, Fn G Try.prog f [.int .i64 x, c] (.bool (p x))) : Fn G Try.prog 33 [.sl 1 xs.length (xs.map (D.int .i64)), .fn f [c]] (.bool (xs.any p)) := by
  refine Fn.mk (c := _) Try.func33 rfl rfl Try.ntmps33 Try.results33 ?_
  (simp -dsimp only [bodyW, List.length_cons, List.length_nil, Nat.zero_add, Nat.reduceAdd, Nat.reduceLeDiff, wfL, ↓z_seq, ↓z_region, ↓z_ops_plain, ↓z_assign, ↓evW_const, ↓constW_bool, ↓z_put, Nat.reduceLT, ↓z_ops_nil, ↓z_seq_nrm, ↓z_move, ↓evW_tmp, ↓lkW_cons, reduceCtorEq, ↓reduceIte, ↓z_lk_env, Nat.reduceEqDiff, ↓z_callv, ↓evW_func, ↓z_evL_cons, ↓z_evL_nil, ↓z_fun0, ↓z_coeL_cons, ↓z_coe_sl, ↓z_coe_fn, ↓z_coeL_nil, true_and])
  intro _ _
  refine call_fn (fn_IndexFuncI G xs f c p hp) fun _ => ?_
  (simp -dsimp only [↓z_put, Nat.reduceLT, ↓z_ops_plain, ↓z_binOp, ↓evW_tmp, ↓lkW_cons, ↓reduceIte, ↓evW_const, ↓constW_int, inR_i64, Int.reduceNeg, Int.reduceLE, and_self, ↓z_bn_geq, ↓z_assign, ↓z_ops_nil, ↓z_seq_nrm, ↓z_ret, ↓z_end_rt, resLW, res1W, ↓z_envF_cons, Nat.zero_add, ↓z_envF_nil, ↓z_coeL_cons, ↓z_coeL_nil, ↓z_pack1, ↓z_coe_bool, D.bool.injEq, true_and]); (try simp only [Int.toNat_natCast, Nat.mul_one, Bool.or_false, Bool.false_or, Bool.or_self, Bool.or_true])
  exact fIdx_any
set_option maxRecDepth 100000 in
set_option maxHeartbeats 8000000 in
theorem fn_IndexFuncR (G : Glob) (rs : List (Int × Bool)) (f : FuncId) (c : D) (p : Int × Bool → Bool) (hp : ∀ x, Fn G Try.prog f [.agg [.int .i64 x.1, .bool x.2], c] (.bool (p x))) : Fn G Try.prog 41 [.sl 2 rs.length (List.flatMap rkC rs), .fn f [c]] (.int .i64 (fIdx p rs)) := by
  refine Fn.mk (c := _) Try.func41 rfl rfl Try.ntmps41 Try.results41 ?_
  (simp -dsimp only [bodyW, List.length_cons, List.length_nil, Nat.zero_add, Nat.reduceAdd, Nat.reduceLeDiff, wfL, ↓z_seq, ↓z_region, ↓z_ops_plain, ↓z_assign, ↓evW_const, ↓constW_int, inR_i64, Int.reduceNeg, Int.reduceLE, and_self, ↓z_put, Nat.reduceLT, ↓z_ops_nil, ↓z_seq_nrm, ↓z_move, ↓evW_tmp, ↓lkW_cons, reduceCtorEq, ↓reduceIte, ↓z_lk_env, ↓z_callb, ↓z_evL_cons, ↓z_evL_nil, ↓z_len, ↓y_ty23, ↓z_ln_sl, ↓z_block, ↓z_loop, true_and])
  intro hx _
  have hx' : rs.length ≤ 9223372036854775807 := hx.1.1
  refine hold_intro ⟨[], Nat, fun i => ⟨19, 0, [(8, .int .i64 i), (7, .int .i64 rs.length), (0, .sl 2 rs.length (List.flatMap rkC rs)), (1, .fn f [c])], []⟩, fun i => i ≤ rs.length ∧ ∀ (j : Nat) (hj : j < i) (hx : j < rs.length), p rs[j] = false, fun i => rs.length - i, ?_, ?_⟩
  · (simp -dsimp only [↓z_ad_nil, ↓z_wk, ↓z_wkE_cons, ↓lkW_cons, ↓reduceIte, D.int.injEq, true_and, Nat.reduceEqDiff, reduceCtorEq, ↓z_lk_env, Nat.zero_add, ↓z_wkE_nil, and_self, and_true, ↓z_wkO_nil]); (try simp only [Int.toNat_natCast, Nat.mul_one, Bool.or_false, Bool.false_or, Bool.or_self, Bool.or_true])
    exact ⟨0, by simp⟩
  · rintro i ⟨hi, ha⟩
    by_cases h : i < rs.length
    · have hop := rk_at h
      have hl2 := rk_len rs
      (simp -dsimp only [↓z_seq, ↓z_region, ↓z_ops_plain, ↓z_binOp, ↓evW_tmp, ↓lkW_cons, ↓reduceIte, Nat.reduceEqDiff, ↓z_bn_lss, ↓z_put, Nat.reduceLT, ↓z_ops_nil, ↓z_seq_nrm, ↓z_cond, ↓z_cnd, ↓z_gdt, ↓z_skip, ↓z_block, ↓z_move, ↓z_assign, reduceCtorEq, ↓z_indexAddr, ↓y_ty23, ↓z_elTy_sl, ↓y_sz56, ↓z_ix_sl, ↓z_load, ↓y_ty56, ↓z_agTy_st, ↓loadW_rop, ↓z_rd_t, hl2, ↓z_callv, ↓z_evL_cons, ↓z_evL_nil, ↓z_fun, ↓z_coeL_cons, ↓z_coe_agg, ↓z_coeL_nil, true_and, z_sub, ↓z_exit, ↓z_seq_ext, ↓z_lp_ext, ↓z_blk_ext, ↓evW_const, ↓constW_int, Int.reduceNeg, inR_i64, Int.reduceLE, and_self, ↓z_ret, ↓z_end_rt, resLW, res1W, ↓z_pack1, ↓z_coe_int, D.int.injEq, z_ite]); (try simp only [Int.toNat_natCast])
      rw [hop]
      refine ⟨fun _ => ⟨by omega, by omega, by omega, call_fn (hp _) fun _ => ?_⟩, fun h => by omega⟩
      (simp -dsimp only [↓z_put, Nat.reduceLT, ↓z_ops_nil, ↓z_seq_nrm, ↓z_cond, ↓evW_tmp, ↓lkW_cons, ↓reduceIte, ↓z_cnd, ↓z_seq, ↓z_region, ↓z_ops_plain, ↓z_move, Nat.reduceEqDiff, ↓z_assign, ↓z_ret, ↓z_blk_rt, ↓z_seq_rt, ↓z_lp_rt, ↓z_end_rt, resLW, res1W, ↓z_coeL_cons, ↓z_coeL_nil, ↓z_pack1, ↓z_coe_int, D.int.injEq, true_and, ↓z_skip, ↓z_blk_nrm, ↓z_binOp, ↓evW_const, ↓constW_int, inR_i64, Int.reduceNeg, Int.reduceLE, and_self, ↓z_bn_add, ↓wrW_i64, ↓z_lp_nrm, ↓z_wk, ↓z_wkE_cons, reduceCtorEq, ↓z_wkE_nil, and_true, ↓z_wkO_nil, z_gvar]); (try simp only [Int.toNat_natCast, Nat.mul_one, Bool.or_false, Bool.false_or, Bool.or_self, Bool.or_true])
      refine ⟨fun hl => ?_, fun hl => ⟨by omega, i + 1, ⟨by omega, fun j hj hx => ?_⟩, by omega, by omega⟩⟩
      · exact (fIdx_some (by omega) hl fun j hj => ha j hj (by omega)).symm
      · by_cases e : j = i
        · subst e; exact hl
        · exact ha j (by omega) hx
    · (simp -dsimp only [↓z_seq, ↓z_region, ↓z_ops_plain, ↓z_binOp, ↓evW_tmp, ↓lkW_cons, ↓reduceIte, Nat.reduceEqDiff, ↓z_bn_lss, ↓z_put, Nat.reduceLT, ↓z_ops_nil, ↓z_seq_nrm, ↓z_cond, ↓z_cnd, ↓z_gdt, ↓z_skip, ↓z_block, ↓z_move, ↓z_assign, reduceCtorEq, ↓z_indexAddr, ↓y_ty23, ↓z_elTy_sl, ↓y_sz56, ↓z_ix_sl, ↓z_load, ↓y_ty56, ↓z_agTy_st, ↓loadW_rop, ↓z_rd_t, ↓z_callv, ↓z_evL_cons, ↓z_evL_nil, ↓z_fun, ↓z_coeL_cons, ↓z_coe_agg, ↓z_coeL_nil, true_and, z_sub, ↓z_exit, ↓z_seq_ext, ↓z_lp_ext, ↓z_blk_ext, ↓evW_const, ↓constW_int, Int.reduceNeg, inR_i64, Int.reduceLE, and_self, ↓z_ret, ↓z_end_rt, resLW, res1W, ↓z_pack1, ↓z_coe_int, D.int.injEq, z_ite]); (try simp only [Int.toNat_natCast])
      refine ⟨fun h => by omega, fun h => ?_⟩
      exact (fIdx_none fun j hj => ha j (by omega) hj).symm
set_option maxRecDepth 100000 in
set_option maxHeartbeats 8000000 in
theorem fn_ContainsFuncR (G : Glob) (rs : List (Int × Bool)) (f : FuncId) (c : D) (p : Int × Bool → Bool) (hp : ∀ x, Fn G Try.prog f [.agg [.int .i64 x.1, .bool x.2], c] (.bool (p x))) : Fn G Try.prog 34 [.sl 2 rs.length (List.flatMap rkC rs), .fn f [c]] (.bool (rs.any p)) := by
  refine Fn.mk (c := _) Try.func34 rfl rfl Try.ntmps34 Try.results34 ?_
  (simp -dsimp only [bodyW, List.length_cons, List.length_nil, Nat.zero_add, Nat.reduceAdd, Nat.reduceLeDiff, wfL, ↓z_seq, ↓z_region, ↓z_ops_plain, ↓z_assign, ↓evW_const, ↓constW_bool, ↓z_put, Nat.reduceLT, ↓z_ops_nil, ↓z_seq_nrm, ↓z_move, ↓evW_tmp, ↓lkW_cons, reduceCtorEq, ↓reduceIte, ↓z_lk_env, Nat.reduceEqDiff, ↓z_callv, ↓evW_func, ↓z_evL_cons, ↓z_evL_nil, ↓z_fun0, ↓z_coeL_cons, ↓z_coe_sl, ↓z_coe_fn, ↓z_coeL_nil, true_and])
  intro _ _
  refine call_fn (fn_IndexFuncR G rs f c p hp) fun _ => ?_
  (simp -dsimp only [↓z_put, Nat.reduceLT, ↓z_ops_plain, ↓z_binOp, ↓evW_tmp, ↓lkW_cons, ↓reduceIte, ↓evW_const, ↓constW_int, inR_i64, Int.reduceNeg, Int.reduceLE, and_self, ↓z_bn_geq, ↓z_assign, ↓z_ops_nil, ↓z_seq_nrm, ↓z_ret, ↓z_end_rt, resLW, res1W, ↓z_envF_cons, Nat.zero_add, ↓z_envF_nil, ↓z_coeL_cons, ↓z_coeL_nil, ↓z_pack1, ↓z_coe_bool, D.bool.injEq, true_and]); (try simp only [Int.toNat_natCast, Nat.mul_one, Bool.or_false, Bool.false_or, Bool.or_self, Bool.or_true])
  exact fIdx_any
set_option maxRecDepth 100000 in
set_option maxHeartbeats 8000000 in
theorem fn_Index (G : Glob) (xs : List Int) (n : Int) : Fn G Try.prog 42 [.sl 1 xs.length (xs.map (D.int .i64)), .int .i64 n] (.int .i64 (fIdx (fun x => decide (n = x)) xs)) := by
  refine Fn.mk (c := _) Try.func42 rfl rfl Try.ntmps42 Try.results42 ?_
  (simp -dsimp only [bodyW, List.length_cons, List.length_nil, Nat.zero_add, Nat.reduceAdd, Nat.reduceLeDiff, wfL, ↓z_seq, ↓z_region, ↓z_ops_plain, ↓z_assign, ↓evW_const, ↓constW_int, inR_i64, Int.reduceNeg, Int.reduceLE, and_self, ↓z_put, Nat.reduceLT, ↓z_ops_nil, ↓z_seq_nrm, ↓z_move, ↓evW_tmp, ↓lkW_cons, reduceCtorEq, ↓reduceIte, ↓z_lk_env, ↓z_callb, ↓z_evL_cons, ↓z_evL_nil, ↓z_len, ↓y_ty22, ↓z_ln_sl, ↓z_block, ↓z_loop, true_and])
  intro hx _
  have hx' : xs.length ≤ 9223372036854775807 := hx.1.1
  refine hold_intro ⟨[], Nat, fun i => ⟨19, 0, [(8, .int .i64 i), (7, .int .i64 xs.length), (0, .sl 1 xs.length (xs.map (D.int .i64))), (1, .int .i64 n)], []⟩, fun i => i ≤ xs.length ∧ ∀ (j : Nat) (hj : j < i) (hx : j < xs.length), ¬ n = xs[j], fun i => xs.length - i, ?_, ?_⟩
  · (simp -dsimp only [↓z_ad_nil, ↓z_wk, ↓z_wkE_cons, ↓lkW_cons, ↓reduceIte, D.int.injEq, true_and, Nat.reduceEqDiff, reduceCtorEq, ↓z_lk_env, Nat.zero_add, ↓z_wkE_nil, and_self, and_true, ↓z_wkO_nil]); (try simp only [Int.toNat_natCast, Nat.mul_one, Bool.or_false, Bool.false_or, Bool.or_self, Bool.or_true])
    exact ⟨0, by simp⟩
  · rintro i ⟨hi, ha⟩
    (simp -dsimp only [↓z_seq, ↓z_region, ↓z_ops_plain, ↓z_binOp, ↓evW_tmp, ↓lkW_cons, ↓reduceIte, Nat.reduceEqDiff, ↓z_bn_lss, ↓z_put, Nat.reduceLT, ↓z_ops_nil, ↓z_seq_nrm, ↓z_cond, ↓z_cnd, ↓z_gdt, ↓z_skip, ↓z_block, ↓z_move, ↓z_assign, reduceCtorEq, ↓z_indexAddr, ↓y_ty22, ↓z_elTy_sl, ↓y_sz3, ↓z_ix_sl, ↓z_load, ↓y_ty3, ↓z_agTy_int, ↓loadW_rop, ↓z_rd_f, ↓z_nth_int, ↓z_bn_eql, Nat.mul_one, ↓z_ret, ↓z_blk_rt, ↓z_seq_rt, ↓z_lp_rt, ↓z_end_rt, resLW, res1W, ↓z_coeL_cons, ↓z_coeL_nil, ↓z_pack1, ↓z_coe_int, D.int.injEq, true_and, ↓z_blk_nrm, ↓evW_const, ↓constW_int, inR_i64, Int.reduceNeg, Int.reduceLE, and_self, ↓z_bn_add, ↓wrW_i64, ↓z_lp_nrm, ↓z_wk, ↓z_wkE_cons, ↓z_wkE_nil, and_true, ↓z_wkO_nil, z_ite, ↓z_exit, ↓z_seq_ext, ↓z_lp_ext, ↓z_blk_ext]); (try simp only [Int.toNat_natCast])
    refine ⟨fun h => ⟨by omega, by omega, by omega, fun hl => ?_, fun hl => ⟨by omega, i + 1, ⟨by omega, fun j hj hx => ?_⟩, by omega, by omega⟩⟩, fun h => ?_⟩
    · exact (fIdx_some (p := fun x => decide (n = x)) (by omega) (decide_eq_true hl) fun j hj => decide_eq_false (ha j hj (by omega))).symm
    · by_cases e : j = i
      · subst e; exact hl
      · exact ha j (by omega) hx
    · exact (fIdx_none (p := fun x => decide (n = x)) fun j hj => decide_eq_false (ha j (by omega) hj)).symm
set_option maxRecDepth 100000 in
set_option maxHeartbeats 8000000 in
theorem fn_Contains (G : Glob) (xs : List Int) (n : Int) : Fn G Try.prog 36 [.sl 1 xs.length (xs.map (D.int .i64)), .int .i64 n] (.bool (decide (n ∈ xs))) := by
  refine Fn.mk (c := _) Try.func36 rfl rfl Try.ntmps36 Try.results36 ?_
  (simp -dsimp only [bodyW, List.length_cons, List.length_nil, Nat.zero_add, Nat.reduceAdd, Nat.reduceLeDiff, wfL, ↓z_seq, ↓z_region, ↓z_ops_plain, ↓z_assign, ↓evW_const, ↓constW_bool, ↓z_put, Nat.reduceLT, ↓z_ops_nil, ↓z_seq_nrm, ↓z_move, ↓evW_tmp, ↓lkW_cons, reduceCtorEq, ↓reduceIte, ↓z_lk_env, Nat.reduceEqDiff, ↓z_callv, ↓evW_func, ↓z_evL_cons, ↓z_evL_nil, ↓z_fun0, ↓z_coeL_cons, ↓z_coe_sl, ↓z_coe_int, ↓z_coeL_nil, true_and])
  intro _ _
  refine call_fn (fn_Index G xs n) fun _ => ?_
  (simp -dsimp only [↓z_put, Nat.reduceLT, ↓z_ops_plain, ↓z_binOp, ↓evW_tmp, ↓lkW_cons, ↓reduceIte, ↓evW_const, ↓constW_int, inR_i64, Int.reduceNeg, Int.reduceLE, and_self, ↓z_bn_geq, ↓z_assign, ↓z_ops_nil, ↓z_seq_nrm, ↓z_ret, ↓z_end_rt, resLW, res1W, ↓z_envF_cons, Nat.zero_add, ↓z_envF_nil, ↓z_coeL_cons, ↓z_coeL_nil, ↓z_pack1, ↓z_coe_bool, D.bool.injEq, true_and]); (try simp only [Int.toNat_natCast, Nat.mul_one, Bool.or_false, Bool.false_or, Bool.or_self, Bool.or_true])
  rw [fIdx_any, Bool.eq_iff_iff]; simp
/-- Is it outside? -/
def outB (n : Int) (x : Int) : Bool := decide (x < 0 ∨ n ≤ x)
set_option maxRecDepth 100000 in
set_option maxHeartbeats 8000000 in
theorem fn_out (G : Glob) (n x : Int) : Fn G Try.prog 32 [.int .i64 x, .rop [.int .i64 n] 0] (.bool (outB n x)) := by
  refine Fn.mk (c := _) Try.func32 rfl rfl Try.ntmps32 Try.results32 ?_
  (simp -dsimp only [bodyW, List.length_cons, List.length_nil, Nat.zero_add, Nat.reduceAdd, Nat.reduceLeDiff, wfL, ↓z_seq, ↓z_region, ↓z_ops_plain, ↓z_assign, ↓evW_const, ↓constW_bool, ↓z_put, Nat.reduceLT, ↓z_ops_nil, ↓z_seq_nrm, ↓z_move, ↓evW_tmp, ↓lkW_cons, reduceCtorEq, ↓reduceIte, ↓z_lk_env, ↓z_binOp, ↓constW_int, inR_i64, Int.reduceNeg, Int.reduceLE, and_self, ↓z_bn_lss, ↓z_ops_guard, ↓z_grd, ↓z_dst_s, ↓z_dst_0, ↓z_grdD_b, ↓z_gdf, Nat.reduceEqDiff, ↓z_gnf, ↓z_gft, ↓z_pick, ↓z_pick_b, ↓z_gnt, ↓z_gff, ↓z_ret, ↓z_end_rt, resLW, res1W, Bool.not_false, ↓z_envF_cons, ↓z_envF_nil, ↓z_coeL_cons, ↓z_coeL_nil, ↓z_pack1, ↓z_coe_bool, D.bool.injEq, true_and, ↓z_load, ↓y_ty3, ↓y_sz3, ↓z_agTy_int, ↓loadW_rop, ↓z_rd_f, ↓nthW_cons, ↓z_bn_geq, z_ite]); (try simp only [Int.toNat_natCast, Nat.mul_one, Bool.or_false, Bool.false_or, Bool.or_self, Bool.or_true])
  intro _ _
  unfold outB
  exact ⟨fun h => (decide_eq_true (.inl h)).symm, fun h => by rw [decide_eq_decide]; omega⟩
set_option maxRecDepth 100000 in
set_option maxHeartbeats 8000000 in
theorem fn_outside (G : Glob) (n : Int) : FnF G Try.prog 31 [.int .i64 n] (.fn 32 [.rop [.int .i64 n] 0]) := by
  refine FnF.mk (c := _) Try.func31 rfl rfl Try.ntmps31 Try.results31 ?_
  (simp -dsimp only [bodyW, List.length_cons, List.length_nil, Nat.zero_add, Nat.reduceLeDiff, wfL, ↓z_seq, ↓z_region, ↓z_ops_plain, ↓z_box, ↓evW_tmp, ↓z_lk_env, ↓reduceIte, ↓z_cl_int, ↓z_nmC_cons, ↓z_mn'_int, ↓z_nmC_nil, and_self, ↓z_new, ↓z_nm_nil, Nat.reduceLT, ↓z_pg_env, ↓z_mn_int, ↓z_pg_env0, ↓z_put, ↓z_assign, ↓evW_const, ↓constW_nilFunc, ↓z_ops_nil, ↓z_seq_nrm, ↓z_makeFunc, ↓z_evL_cons, ↓lkW_cons, Nat.reduceEqDiff, ↓z_evL_nil, ↓z_ret, ↓z_end_rt, resLW, res1W, ↓z_frL_cons, ↓z_frL_nil, and_true, ↓z_coeL_cons, ↓z_coeL_nil, ↓z_pack1, ↓z_fr_ofn, ↓z_frSL_cons, ↓z_frS_ptr, ↓lkoW_cons, ↓z_frC_int, ↓z_frC_nil, ↓z_frSL_nil, ↓z_coe_ofn, ↓z_coeC_cons, ↓z_coeS_ptr, ↓z_allP_cons, ↓z_isP_int, ↓z_allP_nil, ↓z_coeC_nil, true_and]); (try simp only [Int.toNat_natCast, Nat.mul_one, Bool.or_false, Bool.false_or, Bool.or_self, Bool.or_true])
  exact fun _ => trivial
set_option maxRecDepth 100000 in
set_option maxHeartbeats 8000000 in
theorem fn_house (G : Glob) (n : Int) (r : Int × Bool) : Fn G Try.prog 35 [.agg [.int .i64 r.1, .bool r.2], .rop [.fn 32 [.rop [.int .i64 n] 0]] 0] (.bool (outB n r.1)) := by
  refine Fn.mk (c := _) Try.func35 rfl rfl Try.ntmps35 Try.results35 ?_
  (simp -dsimp only [bodyW, List.length_cons, List.length_nil, Nat.zero_add, Nat.reduceAdd, Nat.reduceLeDiff, wfL, ↓z_seq, ↓z_region, ↓z_ops_plain, ↓z_box, ↓evW_tmp, ↓z_lk_env, ↓reduceIte, ↓z_cl_agg, ↓z_nmC_cons, ↓z_mn'_int, ↓z_mn'_bool, ↓z_nmC_nil, and_self, ↓z_new, ↓z_nm_nil, Nat.reduceLT, ↓z_pg_env, ↓z_mn_agg, ↓z_mn_rop, ↓z_pg_env0, ↓z_put, ↓z_assign, ↓evW_const, ↓constW_bool, ↓z_ops_nil, ↓z_seq_nrm, ↓z_load, ↓lkW_cons, Nat.reduceEqDiff, reduceCtorEq, ↓y_ty60, ↓y_sz60, ↓z_ag_func, ↓loadW_rop, ↓z_rd_f, ↓nthW_cons, ↓z_fieldAddr, ↓y_fl56x0, ↓y_sz3, ne_eq, not_false_eq_true, ↓z_fa_ptr, ↓y_ty3, ↓z_agTy_int, ↓loadW_ptr, ↓lkoW_cons, ↓z_callv, ↓z_evL_cons, ↓z_evL_nil, ↓z_fun, ↓z_coeL_cons, ↓z_coe_int, ↓z_coeL_nil, true_and])
  intro _ _
  refine call_fn (fn_out G n r.1) fun _ => ?_
  (simp -dsimp only [↓z_put, Nat.reduceLT, ↓z_ops_plain, ↓z_assign, ↓evW_tmp, ↓lkW_cons, ↓reduceIte, ↓z_ops_nil, ↓z_seq_nrm, ↓z_ret, ↓z_end_rt, resLW, res1W, Nat.zero_add, ↓z_coeL_cons, ↓z_coeL_nil, ↓z_pack1, ↓z_coe_bool, and_self]); (try simp only [Int.toNat_natCast, Nat.mul_one, Bool.or_false, Bool.false_or, Bool.or_self, Bool.or_true])
end Go.Abs

