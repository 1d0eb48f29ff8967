/-
  PAD, second walks: a book's checks.
-/
import Derived.Test.YtjlbhapjhjmdfaaP1
namespace Go.Abs
open Go.Proofs

set_option maxRecDepth 100000 in
set_option maxHeartbeats 8000000 in
theorem fn_Index (G : Glob) (l r n : Int) : Fn G Try.prog 34 [.slx 1 2 [.int .i64 l, .int .i64 r], .int .i64 n] (.int .i64 (if n = l then 0 else if n = r then 1 else -1)) := by
  refine Fn.mk (c := _) Try.func34 rfl rfl Try.ntmps34 Try.results34 ?_
  (simp -dsimp only [bodyW, List.length_cons, List.length_nil, Nat.zero_add, Nat.reduceAdd, Nat.reduceLeDiff, wfL, ↓z_seq, ↓z_region, ↓z_ops_plain, ↓z_assign, ↓evW_const, ↓constW_int, inR_i64, Int.reduceNeg, Int.reduceLE, and_self, ↓z_put, Nat.reduceLT, ↓z_ops_nil, ↓z_seq_nrm, ↓z_move, ↓evW_tmp, ↓lkW_cons, reduceCtorEq, ↓reduceIte, ↓z_lk_env, ↓z_callb, ↓z_evL_cons, ↓z_evL_nil, ↓z_len, ↓y_ty43, ↓z_ln_slx, ↓z_block, ↓z_loop, true_and])
  intro _ _
  refine hold_intro ⟨[], Int, fun i => ⟨19, 0, [(8, .int .i64 i), (7, .int .i64 2), (0, .slx 1 2 [.int .i64 l, .int .i64 r]), (1, .int .i64 n)], []⟩, fun i => i = 0 ∨ (i = 1 ∧ n ≠ l) ∨ (i = 2 ∧ n ≠ l ∧ n ≠ r), fun i => (2 - i).toNat, ?_, ?_⟩
  · (simp -dsimp only [↓z_ad_nil, ne_eq, ↓z_wk, ↓z_wkE_cons, ↓lkW_cons, ↓reduceIte, D.int.injEq, true_and, Nat.reduceEqDiff, reduceCtorEq, ↓z_lk_env, Nat.zero_add, ↓z_wkE_nil, and_self, and_true, ↓z_wkO_nil]); (try simp only [Int.toNat_natCast, Nat.mul_one, Bool.or_false, Bool.false_or, Bool.or_self, Bool.or_true])
    exact ⟨0, .inl rfl, rfl, rfl⟩
  · rintro i (rfl | ⟨rfl, h1⟩ | ⟨rfl, h1, h2⟩)
    · (simp -dsimp only [↓z_seq, ↓z_region, ↓z_ops_plain, ↓z_binOp, ↓evW_tmp, ↓lkW_cons, ↓reduceIte, Nat.reduceEqDiff, ↓z_bn_lss, ↓z_put, Nat.reduceLT, ↓z_ops_nil, ↓z_seq_nrm, ↓z_cond, ↓z_cnd, ↓z_gdt, Int.reduceLT, ↓z_skip, ↓z_block, ↓z_move, ↓z_assign, reduceCtorEq, ↓z_indexAddr, ↓y_ty43, ↓z_elTy_sl, ↓y_sz3, ↓z_ix_slx, Int.reduceLE, ↓z_load, ↓y_ty3, ↓z_agTy_int, ↓loadW_rop, ↓z_rd_f, ↓nthW_cons, Int.reduceToNat, Nat.mul_one, ↓z_bn_eql, ↓z_ret, ↓z_blk_rt, ↓z_seq_rt, ↓z_lp_rt, ↓z_end_rt, resLW, res1W, ↓z_coeL_cons, ↓z_coeL_nil, ↓z_pack1, Int.reduceNeg, ↓z_coe_int, D.int.injEq, true_and, ↓z_blk_nrm, ↓evW_const, ↓constW_int, inR_i64, and_self, ↓z_bn_add, ↓wrW_i64, ↓z_lp_nrm, ne_eq, ↓z_wk, ↓z_wkE_cons, ↓z_wkE_nil, and_true, ↓z_wkO_nil, z_ite]); (try simp only [Int.toNat_natCast, Nat.mul_one, Bool.or_false, Bool.false_or, Bool.or_self, Bool.or_true])
      exact ⟨by omega, fun h => by rw [if_pos h], fun h => ⟨by omega, 1, .inr (.inl ⟨rfl, h⟩), by omega, rfl⟩⟩
    · (simp -dsimp only [↓z_seq, ↓z_region, ↓z_ops_plain, ↓z_binOp, ↓evW_tmp, ↓lkW_cons, ↓reduceIte, Nat.reduceEqDiff, ↓z_bn_lss, ↓z_put, Nat.reduceLT, ↓z_ops_nil, ↓z_seq_nrm, ↓z_cond, ↓z_cnd, ↓z_gdt, Int.reduceLT, ↓z_skip, ↓z_block, ↓z_move, ↓z_assign, reduceCtorEq, ↓z_indexAddr, ↓y_ty43, ↓z_elTy_sl, ↓y_sz3, ↓z_ix_slx, Int.reduceLE, ↓z_load, ↓y_ty3, ↓z_agTy_int, ↓loadW_rop, ↓z_rd_f, ↓nthW_cons, Int.reduceToNat, Nat.mul_one, Nat.reduceSub, ↓z_bn_eql, ↓z_ret, ↓z_blk_rt, ↓z_seq_rt, ↓z_lp_rt, ↓z_end_rt, resLW, res1W, ↓z_coeL_cons, ↓z_coeL_nil, ↓z_pack1, Int.reduceNeg, ↓z_coe_int, D.int.injEq, true_and, ↓z_blk_nrm, ↓evW_const, ↓constW_int, inR_i64, and_self, ↓z_bn_add, ↓wrW_i64, ↓z_lp_nrm, ne_eq, ↓z_wk, ↓z_wkE_cons, ↓z_wkE_nil, and_true, ↓z_wkO_nil, z_ite]); (try simp only [Int.toNat_natCast, Nat.mul_one, Bool.or_false, Bool.false_or, Bool.or_self, Bool.or_true])
      exact ⟨by omega, fun h => by rw [if_neg h1, if_pos h], fun h => ⟨by omega, 2, .inr (.inr ⟨rfl, h1, h⟩), by omega, rfl⟩⟩
    · (simp -dsimp only [↓z_seq, ↓z_region, ↓z_ops_plain, ↓z_binOp, ↓evW_tmp, ↓lkW_cons, ↓reduceIte, Nat.reduceEqDiff, ↓z_bn_lss, ↓z_put, Nat.reduceLT, ↓z_ops_nil, ↓z_seq_nrm, ↓z_cond, ↓z_cnd, ↓z_gdt, Int.reduceLT, ↓z_exit, ↓z_seq_ext, ↓z_lp_ext, ↓z_blk_ext, ↓z_assign, ↓evW_const, ↓constW_int, Int.reduceNeg, inR_i64, Int.reduceLE, and_self, ↓z_ret, ↓z_end_rt, resLW, res1W, ↓z_coeL_cons, ↓z_coeL_nil, ↓z_pack1, ↓z_coe_int, D.int.injEq, true_and]); (try simp only [Int.toNat_natCast, Nat.mul_one, Bool.or_false, Bool.false_or, Bool.or_self, Bool.or_true])
      rw [if_neg h1, if_neg h2]
set_option maxRecDepth 100000 in
set_option maxHeartbeats 8000000 in
theorem fn_Contains (G : Glob) (l r n : Int) : Fn G Try.prog 31 [.slx 1 2 [.int .i64 l, .int .i64 r], .int .i64 n] (.bool (decide (n = l ∨ n = r))) := by
  refine Fn.mk (c := _) Try.func31 rfl rfl Try.ntmps31 Try.results31 ?_
  (simp -dsimp only [bodyW, List.length_cons, List.length_nil, Nat.zero_add, Nat.reduceAdd, Nat.reduceLeDiff, wfL, ↓z_seq, ↓z_region, ↓z_ops_plain, ↓z_assign, ↓evW_const, ↓constW_bool, ↓z_put, Nat.reduceLT, ↓z_ops_nil, ↓z_seq_nrm, ↓z_move, ↓evW_tmp, ↓lkW_cons, reduceCtorEq, ↓reduceIte, ↓z_lk_env, Nat.reduceEqDiff, ↓z_callv, ↓evW_func, ↓z_evL_cons, ↓z_evL_nil, ↓z_fun0, ↓z_coeL_cons, ↓z_coe_slx, ↓z_coe_int, ↓z_coeL_nil, true_and])
  intro _ _
  refine call_fn (fn_Index G l r n) fun _ => ?_
  (simp -dsimp only [↓z_put, Nat.reduceLT, ↓z_ops_plain, ↓z_binOp, ↓evW_tmp, ↓lkW_cons, ↓reduceIte, ↓evW_const, ↓constW_int, inR_i64, Int.reduceNeg, Int.reduceLE, and_self, ↓z_bn_geq, ↓z_assign, ↓z_ops_nil, ↓z_seq_nrm, ↓z_ret, ↓z_end_rt, resLW, res1W, ↓z_coeL_cons, ↓z_coeL_nil, ↓z_pack1, ↓z_coe_bool, D.bool.injEq, true_and]); (try simp only [Int.toNat_natCast, Nat.mul_one, Bool.or_false, Bool.false_or, Bool.or_self, Bool.or_true])
  rw [decide_eq_decide]
  by_cases h1 : n = l <;> by_cases h2 : n = r <;> simp only [h1, h2, if_true, if_false, true_or, or_true, or_self, iff_true, iff_false] <;> (try split) <;> omega
set_option maxRecDepth 100000 in
set_option maxHeartbeats 8000000 in
theorem fn_either (G : Glob) (l r n : Int) : Fn G Try.prog 22 [.int .i64 n, .slx 1 2 [.int .i64 l, .int .i64 r]] (.bool (decide (n = l ∨ n = r))) := by
  refine Fn.mk (c := _) Try.func22 rfl rfl Try.ntmps22 Try.results22 ?_
  (simp -dsimp only [bodyW, List.length_cons, List.length_nil, Nat.zero_add, Nat.reduceAdd, Nat.reduceLeDiff, wfL, ↓z_seq, ↓z_region, ↓z_ops_plain, ↓z_assign, ↓evW_const, ↓constW_bool, ↓z_put, Nat.reduceLT, ↓z_ops_nil, ↓z_seq_nrm, ↓z_move, ↓evW_tmp, ↓lkW_cons, Nat.reduceEqDiff, ↓reduceIte, ↓z_lk_env, reduceCtorEq, ↓z_callv, ↓evW_func, ↓z_evL_cons, ↓z_evL_nil, ↓z_fun0, ↓z_coeL_cons, ↓z_coe_slx, ↓z_coe_int, ↓z_coeL_nil, true_and])
  intro _ _
  refine call_fn (fn_Contains G l r n) fun _ => ?_
  (simp -dsimp only [↓z_put, Nat.reduceLT, ↓z_ops_plain, ↓z_assign, ↓evW_tmp, ↓lkW_cons, ↓reduceIte, ↓z_ops_nil, ↓z_seq_nrm, ↓z_ret, ↓z_end_rt, resLW, res1W, ↓z_coeL_cons, ↓z_coeL_nil, ↓z_pack1, ↓z_coe_bool, and_self]); (try simp only [Int.toNat_natCast, Nat.mul_one, Bool.or_false, Bool.false_or, Bool.or_self, Bool.or_true])
set_option maxRecDepth 100000 in
set_option maxHeartbeats 8000000 in
theorem fn_long (G : Glob) (p : List UInt8) : Fn G Try.prog 27 [.str p] (.bool (decide (4096 < p.length))) := by
  refine Fn.mk (c := _) Try.func27 rfl rfl Try.ntmps27 Try.results27 ?_
  (simp -dsimp only [bodyW, List.length_cons, List.length_nil, Nat.zero_add, Nat.reduceLeDiff, wfL, ↓z_seq, ↓z_region, ↓z_ops_plain, ↓z_assign, ↓evW_const, ↓constW_bool, ↓z_put, Nat.reduceLT, ↓z_ops_nil, ↓z_seq_nrm, ↓z_move, ↓evW_tmp, ↓lkW_cons, reduceCtorEq, ↓reduceIte, ↓z_lk_env, ↓z_callb, ↓z_evL_cons, ↓z_evL_nil, ↓z_len, ↓y_ty9, ↓z_ln_str, ↓z_binOp, ↓constW_int, inR_i64, Int.reduceNeg, Int.reduceLE, and_self, ↓z_bn_gtr, ↓z_ret, ↓z_end_rt, resLW, res1W, ↓z_coeL_cons, ↓z_coeL_nil, ↓z_pack1, ↓z_coe_bool, D.bool.injEq, true_and]); (try simp only [Int.toNat_natCast, Nat.mul_one, Bool.or_false, Bool.false_or, Bool.or_self, Bool.or_true])
  intro _
  rw [decide_eq_decide]; omega
/-- Where the first of them lies that is too long; -1 if none is. -/
def firstLong (x : List (List UInt8)) : Int := match x.findIdx? (fun p => decide (4096 < p.length)) with | some i => i | none => -1
set_option maxRecDepth 100000 in
set_option maxHeartbeats 8000000 in
theorem fn_IndexFunc (G : Glob) (x : List (List UInt8)) : Fn G Try.prog 33 [.sl 1 x.length (x.map D.str), .fn 27 []] (.int .i64 (firstLong x)) := by
  refine Fn.mk (c := _) Try.func33 rfl rfl Try.ntmps33 Try.results33 ?_
  (simp -dsimp only [bodyW, List.length_cons, List.length_nil, Nat.zero_add, Nat.reduceAdd, Nat.reduceLeDiff, wfL, ↓z_seq, ↓z_region, ↓z_ops_plain, ↓z_assign, ↓evW_const, ↓constW_int, inR_i64, Int.reduceNeg, Int.reduceLE, and_self, ↓z_put, Nat.reduceLT, ↓z_ops_nil, ↓z_seq_nrm, ↓z_move, ↓evW_tmp, ↓lkW_cons, reduceCtorEq, ↓reduceIte, ↓z_lk_env, ↓z_callb, ↓z_evL_cons, ↓z_evL_nil, ↓z_len, ↓y_ty22, ↓z_ln_sl, ↓z_block, ↓z_loop, true_and])
  intro hx _
  have hx' : x.length ≤ 9223372036854775807 := hx.1.1
  refine hold_intro ⟨[], Nat, fun i => ⟨19, 0, [(8, .int .i64 i), (7, .int .i64 x.length), (0, .sl 1 x.length (x.map D.str)), (1, .fn 27 [])], []⟩, fun i => i ≤ x.length ∧ ∀ (j : Nat) (hj : j < i) (hx : j < x.length), ¬ 4096 < x[j].length, fun i => x.length - i, ?_, ?_⟩
  · (simp -dsimp only [↓z_ad_nil, ↓z_wk, ↓z_wkE_cons, ↓lkW_cons, ↓reduceIte, D.int.injEq, true_and, Nat.reduceEqDiff, reduceCtorEq, ↓z_lk_env, Nat.zero_add, ↓z_wkE_nil, and_self, and_true, ↓z_wkO_nil]); (try simp only [Int.toNat_natCast, Nat.mul_one, Bool.or_false, Bool.false_or, Bool.or_self, Bool.or_true])
    exact ⟨0, by simp⟩
  · rintro i ⟨hi, ha⟩
    (simp -dsimp only [↓z_seq, ↓z_region, ↓z_ops_plain, ↓z_binOp, ↓evW_tmp, ↓lkW_cons, ↓reduceIte, Nat.reduceEqDiff, ↓z_bn_lss, ↓z_put, Nat.reduceLT, ↓z_ops_nil, ↓z_seq_nrm, ↓z_cond, ↓z_cnd, ↓z_gdt, ↓z_skip, ↓z_block, ↓z_move, ↓z_assign, reduceCtorEq, ↓z_indexAddr, ↓y_ty22, ↓z_elTy_sl, ↓y_sz9, ↓z_ix_sl, ↓z_load, ↓y_ty9, ↓z_agTy_str, ↓loadW_rop, ↓z_rd_f, ↓z_nth_str, ↓z_callv, ↓z_evL_cons, ↓z_evL_nil, ↓z_fun0, ↓z_coeL_cons, ↓z_coe_str, ↓z_coeL_nil, true_and, Nat.mul_one, ↓z_exit, ↓z_seq_ext, ↓z_lp_ext, ↓z_blk_ext, ↓evW_const, ↓constW_int, Int.reduceNeg, inR_i64, Int.reduceLE, and_self, ↓z_ret, ↓z_end_rt, resLW, res1W, ↓z_pack1, ↓z_coe_int, D.int.injEq, z_ite]); (try simp only [Int.toNat_natCast])
    refine ⟨fun h => ⟨by omega, by omega, by omega, call_fn (fn_long G _) fun _ => ?_⟩, fun h => ?_⟩
    · (simp -dsimp only [↓z_put, Nat.reduceLT, ↓z_ops_nil, ↓z_seq_nrm, ↓z_cond, ↓evW_tmp, ↓lkW_cons, ↓reduceIte, ↓z_cnd, ↓z_gdt, Nat.mul_one, ↓z_seq, ↓z_region, ↓z_ops_plain, ↓z_move, Nat.reduceEqDiff, ↓z_assign, ↓z_ret, ↓z_blk_rt, ↓z_seq_rt, ↓z_lp_rt, ↓z_end_rt, resLW, res1W, ↓z_coeL_cons, ↓z_coeL_nil, ↓z_pack1, ↓z_coe_int, D.int.injEq, true_and, ↓z_skip, ↓z_blk_nrm, ↓z_binOp, ↓evW_const, ↓constW_int, inR_i64, Int.reduceNeg, Int.reduceLE, and_self, ↓z_bn_add, ↓wrW_i64, ↓z_lp_nrm, ↓z_wk, ↓z_wkE_cons, reduceCtorEq, ↓z_wkE_nil, and_true, ↓z_wkO_nil, z_ite]); (try simp only [Int.toNat_natCast, Nat.mul_one, Bool.or_false, Bool.false_or, Bool.or_self, Bool.or_true])
      refine ⟨fun hl => ?_, fun hl => ⟨by omega, i + 1, ⟨by omega, fun j hj hx => ?_⟩, by omega, by omega⟩⟩
      · have e : x.findIdx? (fun p => decide (4096 < p.length)) = some i := by
          rw [List.findIdx?_eq_some_iff_getElem]
          exact ⟨by omega, by simpa using hl, fun j hj => by simpa using ha j hj (by omega)⟩
        unfold firstLong; rw [e]
      · by_cases e : j = i
        · subst e; exact hl
        · exact ha j (by omega) hx
    · have e : x.findIdx? (fun p => decide (4096 < p.length)) = none := by
        rw [List.findIdx?_eq_none_iff]
        intro p hp
        obtain ⟨j, hj, rfl⟩ := List.getElem_of_mem hp
        simpa using ha j (by omega) hj
      unfold firstLong; rw [e]
set_option maxRecDepth 100000 in
set_option maxHeartbeats 8000000 in
theorem fn_ContainsFunc (G : Glob) (x : List (List UInt8)) : Fn G Try.prog 26 [.sl 1 x.length (x.map D.str), .fn 27 []] (.bool (decide (∃ p ∈ x, 4096 < p.length))) := by
  refine Fn.mk (c := _) Try.func26 rfl rfl Try.ntmps26 Try.results26 ?_
  (simp -dsimp only [bodyW, List.length_cons, List.length_nil, Nat.zero_add, Nat.reduceAdd, Nat.reduceLeDiff, wfL, ↓z_seq, ↓z_region, ↓z_ops_plain, ↓z_assign, ↓evW_const, ↓constW_bool, ↓z_put, Nat.reduceLT, ↓z_ops_nil, ↓z_seq_nrm, ↓z_move, ↓evW_tmp, ↓lkW_cons, reduceCtorEq, ↓reduceIte, ↓z_lk_env, Nat.reduceEqDiff, ↓z_callv, ↓evW_func, ↓z_evL_cons, ↓z_evL_nil, ↓z_fun0, ↓z_coeL_cons, ↓z_coe_sl, ↓z_coe_fn, ↓z_coeL_nil, true_and])
  intro _ _
  refine call_fn (fn_IndexFunc G x) fun _ => ?_
  (simp -dsimp only [↓z_put, Nat.reduceLT, ↓z_ops_plain, ↓z_binOp, ↓evW_tmp, ↓lkW_cons, ↓reduceIte, ↓evW_const, ↓constW_int, inR_i64, Int.reduceNeg, Int.reduceLE, and_self, ↓z_bn_geq, ↓z_assign, ↓z_ops_nil, ↓z_seq_nrm, ↓z_ret, ↓z_end_rt, resLW, res1W, ↓z_coeL_cons, ↓z_coeL_nil, ↓z_pack1, ↓z_coe_bool, D.bool.injEq, true_and]); (try simp only [Int.toNat_natCast, Nat.mul_one, Bool.or_false, Bool.false_or, Bool.or_self, Bool.or_true])
  rw [decide_eq_decide]
  unfold firstLong
  constructor
  · intro h
    split at h
    · rename_i i e
      obtain ⟨hi, h1, _⟩ := List.findIdx?_eq_some_iff_getElem.1 e
      exact ⟨x[i], List.getElem_mem _, by simpa using h1⟩
    · omega
  · rintro ⟨p, hp, h⟩
    split
    · omega
    · rename_i e
      rw [List.findIdx?_eq_none_iff] at e
      have := e p hp
      simp at this; omega
/-- The first error of a book. -/
def chk (l r : Int) (x : List (List UInt8)) : Int := if min l r < 0 ∨ 12 ≤ max l r ∨ l = r then 1 else if 200 < x.length ∨ (∃ p ∈ x, 4096 < p.length) then 2 else 0
theorem chk_arg {l r : Int} {x : List (List UInt8)} (h : min l r < 0 ∨ 12 ≤ max l r ∨ l = r) : chk l r x = 1 := if_pos h
theorem chk_lim {l r : Int} {x : List (List UInt8)} (h : ¬ (min l r < 0 ∨ 12 ≤ max l r ∨ l = r)) (h2 : 200 < x.length ∨ ∃ p ∈ x, 4096 < p.length) : chk l r x = 2 := by
  unfold chk; rw [if_neg h, if_pos h2]
theorem chk_ok {l r : Int} {x : List (List UInt8)} (h : ¬ (min l r < 0 ∨ 12 ≤ max l r ∨ l = r)) (h2 : ¬ 200 < x.length) (h3 : ¬ ∃ p ∈ x, 4096 < p.length) : chk l r x = 0 := by
  unfold chk; rw [if_neg h, if_neg (fun e => e.elim h2 h3)]
set_option maxRecDepth 100000 in
set_option maxHeartbeats 8000000 in
theorem fn_Check (G : Glob) (l r : Int) (x : List (List UInt8)) : Fn G Try.prog 14 [.agg [.int .i64 l, .int .i64 r, .sl 1 x.length (x.map D.str)]] (.int .i64 (chk l r x)) := by
  refine Fn.mk (c := _) Try.func14 rfl rfl Try.ntmps14 Try.results14 ?_
  (simp -dsimp only [bodyW, List.length_cons, List.length_nil, Nat.zero_add, Nat.reduceLeDiff, wfL, ↓z_seq, ↓z_region, ↓z_ops_plain, ↓z_box, ↓evW_tmp, ↓z_lk_env, ↓reduceIte, ↓z_cl_agg, ↓z_nmC_cons, ↓z_mn'_int, ↓z_mn'_sl, ↓z_nmC_nil, and_self, ↓z_new, ↓z_nm_nil, Nat.reduceLT, ↓z_pg_env, ↓z_mn_agg, ↓z_pg_env0, ↓z_put, ↓z_assign, ↓evW_const, ↓constW_int, inR_i64, Int.reduceNeg, Int.reduceLE, ↓z_ops_nil, ↓z_seq_nrm, ↓z_fieldAddr, ↓lkW_cons, Nat.reduceEqDiff, ↓y_fl24x0, ↓y_sz3, ne_eq, reduceCtorEq, not_false_eq_true, ↓z_fa_ptr, ↓z_load, ↓y_ty3, ↓z_agTy_int, ↓loadW_ptr, ↓lkoW_cons, ↓z_rd_f, ↓nthW_cons, ↓y_fl24x1, Nat.reduceSub, ↓z_callb, ↓z_evL_cons, ↓z_evL_nil, ↓z_min, ↓z_mx_min, ↓z_mx_nil, ↓z_binOp, ↓z_bn_lss, ↓z_move, ↓z_ops_guard, ↓z_grd, ↓z_dst_s, ↓z_dst_0, ↓z_grdD_b, ↓z_gdf, ↓z_gnf, ↓z_gft, ↓z_pick, ↓z_pick_b, ↓z_gnt, ↓z_gff, ↓constW_bool, ↓z_gtf, ↓z_cond, ↓z_cnd, ↓z_gtt, ↓z_ret, ↓z_seq_rt, ↓z_end_rt, resLW, res1W, Bool.not_false, ↓z_coeL_cons, ↓z_coeL_nil, ↓z_pack1, ↓z_coe_int, D.int.injEq, true_and, ↓z_max, ↓z_mx_max, ↓z_bn_geq, ↓z_bn_eql, ↓z_gdt, ↓z_skip, ↓y_fl24x2, ↓y_sz22, ↓y_ty22, ↓z_agTy_sl, ↓z_len, ↓z_ln_sl, ↓z_bn_gtr, ↓z_callv, ↓evW_func, ↓z_fun0, ↓z_coe_sl, ↓z_coe_fn, z_ite])
  intro hd
  refine ⟨fun h => (chk_arg (.inl h)).symm, fun h1 => ⟨fun h => (chk_arg (.inr (.inl h))).symm, fun h2 => ⟨fun h => (chk_arg (.inr (.inr h))).symm, fun h3 => ⟨fun h => (chk_lim (by omega) (.inl (by omega))).symm, fun h4 => call_fn (fn_ContainsFunc G x) fun _ => ?_⟩⟩⟩⟩
  (simp -dsimp only [↓z_put, Nat.reduceLT, ↓z_ops_plain, ↓z_pick, ↓evW_tmp, ↓lkW_cons, Nat.reduceEqDiff, ↓reduceIte, ↓z_pick_b, ↓z_gft, ↓z_ops_nil, ↓z_seq_nrm, ↓z_cond, ↓z_cnd, ↓z_gdt, ↓z_seq, ↓z_region, ↓z_assign, ↓evW_const, ↓constW_int, inR_i64, Int.reduceNeg, Int.reduceLE, and_self, ↓z_ret, ↓z_seq_rt, ↓z_end_rt, resLW, res1W, Nat.zero_add, ↓z_coeL_cons, ↓z_coeL_nil, ↓z_pack1, ↓z_coe_int, D.int.injEq, true_and, ↓z_skip, z_ite]); (try simp only [Int.toNat_natCast, Nat.mul_one, Bool.or_false, Bool.false_or, Bool.or_self, Bool.or_true])
  exact ⟨fun h => (chk_lim (by omega) (.inr h)).symm, fun h => (chk_ok (by omega) (by omega) h).symm⟩
set_option maxRecDepth 100000 in
set_option maxHeartbeats 8000000 in
theorem fn_refCheck (G : Glob) (l r : Int) (x : List (List UInt8)) : Fn G Try.prog 15 [.agg [.int .i64 l, .int .i64 r, .sl 1 x.length (x.map D.str)]] (.int .i64 (chk l r x)) := by
  refine Fn.mk (c := _) Try.func15 rfl rfl Try.ntmps15 Try.results15 ?_
  (simp -dsimp only [bodyW, List.length_cons, List.length_nil, Nat.zero_add, Nat.reduceLeDiff, wfL, ↓z_seq, ↓z_region, ↓z_ops_plain, ↓z_box, ↓evW_tmp, ↓z_lk_env, ↓reduceIte, ↓z_cl_agg, ↓z_nmC_cons, ↓z_mn'_int, ↓z_mn'_sl, ↓z_nmC_nil, and_self, ↓z_new, ↓z_nm_nil, Nat.reduceLT, ↓z_pg_env, ↓z_mn_agg, ↓z_pg_env0, ↓z_put, ↓z_assign, ↓evW_const, ↓constW_int, inR_i64, Int.reduceNeg, Int.reduceLE, ↓z_ops_nil, ↓z_seq_nrm, ↓z_fieldAddr, ↓lkW_cons, Nat.reduceEqDiff, ↓y_fl24x0, ↓y_sz3, ne_eq, reduceCtorEq, not_false_eq_true, ↓z_fa_ptr, ↓z_load, ↓y_ty3, ↓z_agTy_int, ↓loadW_ptr, ↓lkoW_cons, ↓z_rd_f, ↓nthW_cons, ↓z_binOp, ↓z_bn_lss, ↓z_move, ↓z_ops_guard, ↓z_grd, ↓z_dst_s, ↓z_dst_0, ↓z_grdD_b, ↓z_gdf, ↓z_gnf, ↓z_gft, ↓z_pick, ↓z_pick_b, ↓z_gnt, ↓z_gff, ↓constW_bool, ↓z_gtf, ↓z_cond, ↓z_cnd, ↓z_gtt, ↓z_ret, ↓z_seq_rt, ↓z_end_rt, resLW, res1W, Bool.not_false, ↓z_coeL_cons, ↓z_coeL_nil, ↓z_pack1, ↓z_coe_int, D.int.injEq, true_and, ↓z_bn_geq, ↓y_fl24x1, Nat.reduceSub, ↓z_bn_eql, ↓z_gdt, ↓z_skip, ↓y_fl24x2, ↓y_sz22, ↓y_ty22, ↓z_agTy_sl, ↓z_callb, ↓z_evL_cons, ↓z_evL_nil, ↓z_len, ↓z_ln_sl, ↓z_bn_gtr, ↓z_block, ↓z_loop, z_ite])
  intro hd
  refine ⟨fun h => (chk_arg (by omega)).symm, fun h1 => ⟨fun h => (chk_arg (by omega)).symm, fun h2 => ⟨fun h => (chk_arg (by omega)).symm, fun h3 => ⟨fun h => (chk_arg (by omega)).symm, fun h4 => ⟨fun h => (chk_arg (by omega)).symm, fun h5 => ⟨fun h => (chk_lim (by omega) (.inl (by omega))).symm, fun h6 => ?_⟩⟩⟩⟩⟩⟩
  refine hold_intro ⟨[], Nat, fun i => ⟨47, 1, [(3, .int .i64 i), (1, .ptr 0 0)], [(0, [.int .i64 l, .int .i64 r, .sl 1 x.length (x.map D.str)])]⟩, fun i => i ≤ x.length ∧ ∀ (j : Nat) (hj : j < i) (hx : j < x.length), ¬ 4096 < x[j].length, fun i => x.length - i, ?_, ?_⟩
  · (simp -dsimp only [↓z_ad_nil, ↓z_wk, ↓z_wkE_cons, ↓lkW_cons, ↓reduceIte, D.int.injEq, true_and, Nat.reduceEqDiff, ↓z_wkE_nil, and_self, and_true, ↓z_wkO_cons, ↓lkoW_cons, ↓z_wkO_nil]); (try simp only [Int.toNat_natCast, Nat.mul_one, Bool.or_false, Bool.false_or, Bool.or_self, Bool.or_true])
    exact ⟨0, by simp⟩
  · rintro i ⟨hi, ha⟩
    (simp -dsimp only [↓z_seq, ↓z_region, ↓z_ops_plain, ↓z_move, ↓evW_tmp, ↓lkW_cons, ↓reduceIte, ↓z_put, Nat.reduceLT, ↓z_fieldAddr, Nat.reduceEqDiff, ↓y_fl24x2, ↓y_sz22, ne_eq, reduceCtorEq, not_false_eq_true, ↓z_fa_ptr, ↓z_load, ↓y_ty22, ↓z_agTy_sl, ↓loadW_ptr, ↓lkoW_cons, ↓z_rd_f, ↓nthW_cons, Nat.zero_add, Nat.reduceSub, ↓z_callb, ↓z_evL_cons, ↓z_evL_nil, ↓z_len, ↓z_ln_sl, ↓z_binOp, ↓z_bn_lss, ↓z_ops_nil, ↓z_seq_nrm, ↓z_cond, ↓z_cnd, ↓z_gdt, ↓z_skip, ↓z_block, ↓z_indexAddr, ↓z_elTy_sl, ↓y_sz9, ↓z_ix_sl, ↓y_ty9, ↓z_agTy_str, ↓loadW_rop, ↓z_nth_str, ↓z_ln_str, ↓evW_const, ↓constW_int, inR_i64, Int.reduceNeg, Int.reduceLE, and_self, ↓z_bn_gtr, Nat.mul_one, ↓z_assign, ↓z_ret, ↓z_blk_rt, ↓z_seq_rt, ↓z_lp_rt, ↓z_end_rt, resLW, res1W, ↓z_coeL_cons, ↓z_coeL_nil, ↓z_pack1, ↓z_coe_int, D.int.injEq, true_and, ↓z_blk_nrm, ↓z_bn_add, ↓wrW_i64, ↓z_lp_nrm, ↓z_wk, ↓z_wkE_cons, ↓z_wkE_nil, and_true, ↓z_wkO_cons, ↓z_wkO_nil, z_ite, ↓z_exit, ↓z_seq_ext, ↓z_lp_ext, ↓z_blk_ext]); (try simp only [Int.toNat_natCast])
    refine ⟨fun h => ⟨by omega, h, by omega, fun hl => ?_, fun hl => ⟨by omega, i + 1, ⟨by omega, fun j hj hx => ?_⟩, by omega, by omega⟩⟩, fun h => ?_⟩
    · exact (chk_lim (by omega) (.inr ⟨x[i], List.getElem_mem _, by omega⟩)).symm
    · by_cases e : j = i
      · subst e; omega
      · exact ha j (by omega) hx
    · refine (chk_ok (by omega) (by omega) ?_).symm
      rintro ⟨p, hp, hl⟩
      obtain ⟨j, hj, rfl⟩ := List.getElem_of_mem hp
      exact ha j (by omega) hj hl
end Go.Abs

