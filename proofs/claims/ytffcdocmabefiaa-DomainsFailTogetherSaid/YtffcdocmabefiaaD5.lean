/-
  DOM, fifth walks: equal domains; what is left after a failure; how many there are.
-/
import Derived.Test.YtffcdocmabefiaaD4
namespace Go.Abs
open Go.Proofs
set_option maxRecDepth 100000 in
set_option maxHeartbeats 8000000 in
theorem fn_Same (G : Glob) (d : List Int) (r : List (Int × Bool)) (h : List Int) (o : Int) : Fn G Try.prog 27 [.agg (domA d r h o), .agg (domA d r h o)] (.bool true) := by
  unfold domA
  refine Fn.mk (c := _) Try.func27 rfl rfl Try.ntmps27 Try.results27 ?_
  (simp -dsimp only [bodyW, List.length_cons, List.length_nil, Nat.zero_add, Nat.reduceAdd, Nat.reduceLeDiff, wfL, ↓z_seq, ↓z_region, ↓z_ops_plain, ↓z_box, ↓evW_tmp, ↓z_lk_env, ↓reduceIte, ↓z_cl_agg, ↓z_nmC_cons, ↓z_mn'_sl, ↓z_mn'_int, ↓z_nmC_nil, and_self, ↓z_new, ↓z_nm_nil, Nat.reduceLT, ↓z_pg_env, ↓z_mn_agg, ↓z_pg_env0, ↓z_put, ↓lkW_cons, Nat.reduceEqDiff, reduceCtorEq, ↓z_nm_cons, ↓z_pg_cons, ↓z_mn_ptr, ↓z_pg_nil, ↓z_assign, ↓evW_const, ↓constW_bool, ↓z_ops_nil, ↓z_seq_nrm, ↓z_fieldAddr, ↓y_fl25x0, ↓y_sz22, ne_eq, not_false_eq_true, ↓z_fa_ptr, ↓z_load, ↓y_ty22, ↓z_agTy_sl, ↓loadW_ptr, ↓lkoW_cons, ↓z_rd_f, ↓nthW_cons, ↓z_callv, ↓evW_func, ↓z_evL_cons, ↓z_evL_nil, ↓z_fun0, ↓z_coeL_cons, ↓z_coe_sl, ↓z_coeL_nil, true_and])
  intro hd _
  refine call_fn (fn_SameList G d d) fun _ => ?_
  (simp -dsimp only [↓z_put, Nat.reduceLT, ↓z_ops_plain, ↓z_assign, ↓evW_tmp, ↓lkW_cons, ↓reduceIte, ↓z_ops_nil, ↓z_seq_nrm, ↓z_seq, ↓z_region, ↓z_fieldAddr, Nat.reduceEqDiff, ↓y_fl25x2, ↓y_sz22, ne_eq, reduceCtorEq, not_false_eq_true, ↓z_fa_ptr, ↓z_load, ↓y_ty22, ↓z_agTy_sl, ↓loadW_ptr, ↓lkoW_cons, Nat.zero_add, ↓z_rd_f, ↓nthW_cons, Nat.reduceSub, ↓z_callv, ↓evW_func, ↓z_evL_cons, ↓z_evL_nil, ↓z_fun0, ↓z_coeL_cons, ↓z_coe_sl, ↓z_coeL_nil, true_and])
  refine call_fn (fn_SameList G h h) fun _ => ?_
  (simp -dsimp only [↓z_put, Nat.reduceLT, ↓z_ops_plain, ↓z_assign, ↓evW_tmp, ↓lkW_cons, ↓reduceIte, ↓z_ops_nil, ↓z_seq_nrm, ↓z_seq, ↓z_region, ↓z_move, Nat.reduceEqDiff, ↓z_unOp, ↓z_un_not, ↓z_ops_guard, ↓z_grd, ↓z_dst_s, ↓z_dst_0, ↓z_grdD_b, ↓z_gnf, ↓z_gdt, ↓z_gff, ↓z_pick, ↓z_pick_b, ↓z_gft, ↓z_fieldAddr, ↓y_fl25x3, ↓y_sz3, ne_eq, reduceCtorEq, not_false_eq_true, ↓z_fa_ptr, ↓z_load, ↓y_ty3, ↓z_agTy_int, ↓loadW_ptr, ↓lkoW_cons, Nat.zero_add, ↓z_rd_f, ↓nthW_cons, Nat.reduceSub, ↓z_binOp, ↓z_bn_neq, ↓z_gdf, not_true_eq_false, ↓y_fl25x1, ↓y_sz23, ↓y_ty23, ↓z_agTy_sl, ↓z_callb, ↓z_evL_cons, ↓z_evL_nil, ↓z_len, ↓z_ln_sl, ↓z_cond, ↓z_cnd, ↓z_skip, ↓evW_const, ↓constW_int, inR_i64, Int.reduceNeg, Int.reduceLE, and_self, ↓z_block, ↓z_loop, true_and])
  refine hold_intro ⟨[], Nat, fun i => ⟨58, 2, [(7, .int .i64 i), (2, .ptr 0 0), (3, .ptr 1 0)], [(1, [.sl 1 d.length (d.map (D.int .i64)), .sl 2 r.length (List.flatMap rkC r), .sl 1 h.length (h.map (D.int .i64)), .int .i64 o]), (0, [.sl 1 d.length (d.map (D.int .i64)), .sl 2 r.length (List.flatMap rkC r), .sl 1 h.length (h.map (D.int .i64)), .int .i64 o])]⟩, fun i => i ≤ r.length, fun i => r.length - i, ?_, ?_⟩
  · (simp -dsimp only [↓z_ad_nil, ↓z_wk, ↓z_wkE_cons, ↓lkW_cons, ↓reduceIte, D.int.injEq, true_and, Nat.reduceEqDiff, Nat.zero_add, ↓z_wkE_nil, and_self, and_true, ↓z_wkO_cons, ↓lkoW_cons, reduceCtorEq, ↓z_wkO_nil]); (try simp only [Int.toNat_natCast, Nat.mul_one, Bool.or_false, Bool.false_or, Bool.or_self, Bool.or_true])
    exact ⟨0, by simp⟩
  rintro i hi
  (simp -dsimp only [↓z_seq, ↓z_region, ↓z_ops_plain, ↓z_move, ↓evW_tmp, ↓lkW_cons, ↓reduceIte, ↓z_put, Nat.reduceLT, ↓z_fieldAddr, Nat.reduceEqDiff, ↓y_fl25x1, ↓y_sz23, ne_eq, reduceCtorEq, not_false_eq_true, ↓z_fa_ptr, ↓z_load, ↓y_ty23, ↓z_agTy_sl, ↓loadW_ptr, ↓lkoW_cons, ↓z_rd_f, ↓nthW_cons, Nat.zero_add, Nat.reduceSub, ↓z_callb, ↓z_evL_cons, ↓z_evL_nil, ↓z_len, ↓z_ln_sl, ↓z_binOp, ↓z_bn_lss, ↓z_ops_nil, ↓z_seq_nrm, ↓z_cond, ↓z_cnd, ↓z_gdt, ↓z_skip, ↓z_block, ↓z_region_d, ↓y_mix, true_and, ↓z_exit, ↓z_seq_ext, ↓z_lp_ext, ↓z_blk_ext, ↓z_assign, ↓evW_const, ↓constW_bool, ↓z_ret, ↓z_end_rt, resLW, res1W, ↓z_coeL_cons, ↓z_coeL_nil, ↓z_pack1, ↓z_coe_bool, and_self, z_ite]); (try simp only [Int.toNat_natCast, Nat.mul_one, Bool.or_false, Bool.false_or, Bool.or_self, Bool.or_true])
  refine ⟨fun hlt => ?_, fun _ => trivial⟩
  refine rgn_q (by decide +kernel) rfl ?_
  have hop := rk_at (rs := r) (j := i) (by omega)
  (simp -dsimp only [↓z_ops_plain, ↓z_fieldAddr, ↓evW_tmp, ↓lkW_cons, Nat.reduceEqDiff, ↓reduceIte, ↓y_fl25x1, ↓y_sz23, ne_eq, reduceCtorEq, not_false_eq_true, ↓z_fa_ptr, ↓z_put, Nat.reduceLT, ↓z_load, ↓y_ty23, ↓z_agTy_sl, ↓loadW_ptr, ↓lkoW_cons, ↓z_rd_f, ↓nthW_cons, Nat.zero_add, Nat.reduceSub, ↓z_move, ↓z_indexAddr, ↓z_elTy_sl, ↓y_sz56, ↓z_ix_sl, ↓y_ty56, ↓z_agTy_st, ↓loadW_rop, ↓z_rd_t, rk_len, ↓z_binOp, ↓z_bn_aneq, ↓y_fk56, ↓z_ops_nil, ↓z_seq_nrm, ↓z_cond, ↓z_cnd, ↓z_gnt, ↓z_geqf, ↓z_seq, ↓z_region, ↓z_assign, ↓evW_const, ↓constW_bool, ↓z_ret, ↓z_blk_rt, ↓z_seq_rt, ↓z_lp_rt, ↓z_end_rt, resLW, res1W, ↓z_coeL_cons, ↓z_coeL_nil, ↓z_pack1, ↓z_coe_bool, D.bool.injEq, true_and, ↓z_skip, ↓z_blk_nrm, ↓constW_int, inR_i64, Int.reduceNeg, Int.reduceLE, and_self, ↓z_bn_add, ↓wrW_i64, ↓z_lp_nrm, ↓z_wk, ↓z_wkE_cons, D.int.injEq, ↓z_wkE_nil, and_true, ↓z_wkO_cons, ↓z_wkO_nil, z_sub, not_true_eq_false]); (try simp only [Int.toNat_natCast])
  rw [hop]
  have hrl : r.length ≤ 9223372036854775807 := (hd.2 (.sl 2 r.length (List.flatMap rkC r)) (by simp)).1.1
  exact ⟨by omega, by omega, by omega, by omega, by omega, by omega, rfl, rfl, fun h => h, fun _ => ⟨by omega, i + 1, by omega, by omega, by omega⟩⟩
theorem ofInt_i64 (a : Nat) (ha : a < 4611686018427387904) : (BitVec.ofInt 64 (a : Int)).toNat = a := by
  rw [BitVec.ofInt_natCast, BitVec.toNat_ofNat]; exact Nat.mod_eq_of_lt (by omega)
theorem i64_and_nat (a b : Nat) (ha : a < 4611686018427387904) (hb : b < 4611686018427387904) : bits .and .i64 (a : Int) (b : Int) = ((a &&& b : Nat) : Int) := by
  have hx : a &&& b < 2 ^ 62 := Nat.and_lt_two_pow _ (by omega)
  show IntKind.i64.wrap ((BitVec.ofInt 64 (a : Int) &&& BitVec.ofInt 64 (b : Int)).toNat : Int) = _
  rw [BitVec.toNat_and, ofInt_i64 a ha, ofInt_i64 b hb, IntKind.wrap_i64]
  omega
theorem i64_or_nat (a b : Nat) (ha : a < 4611686018427387904) (hb : b < 4611686018427387904) : bits .or .i64 (a : Int) (b : Int) = ((a ||| b : Nat) : Int) := by
  have hx : a ||| b < 2 ^ 62 := Nat.or_lt_two_pow (by omega) (by omega)
  show IntKind.i64.wrap ((BitVec.ofInt 64 (a : Int) ||| BitVec.ofInt 64 (b : Int)).toNat : Int) = _
  rw [BitVec.toNat_or, ofInt_i64 a ha, ofInt_i64 b hb, IntKind.wrap_i64]
  omega
theorem i64_andNot_nat (a b : Nat) (ha : a < 4611686018427387904) (hb : b < 4611686018427387904) : bits .andNot .i64 (a : Int) (b : Int) = ((a &&& (18446744073709551615 - b) : Nat) : Int) := by
  have hx : a &&& (18446744073709551615 - b) < 2 ^ 62 := by rw [Nat.and_comm]; exact Nat.and_lt_two_pow _ (by omega)
  show IntKind.i64.wrap ((BitVec.ofInt 64 (a : Int) &&& ~~~ BitVec.ofInt 64 (b : Int)).toNat : Int) = _
  rw [BitVec.toNat_and, BitVec.toNat_not, ofInt_i64 a ha, ofInt_i64 b hb, IntKind.wrap_i64, show 2 ^ 64 - 1 - b = 18446744073709551615 - b from rfl]
  omega
theorem shl_one {i : Nat} (hi : i < 24) : shlI .i64 1 (i : Int) = ((2 ^ i : Nat) : Int) := by
  have : ∀ j : Fin 24, shlI .i64 1 ((j.1 : Nat) : Int) = ((2 ^ j.1 : Nat) : Int) := by decide +kernel
  exact this ⟨i, hi⟩
/-- How many bits are set. -/
def cntN : Nat → Nat → Nat
  | 0, _ => 0
  | f + 1, n => n % 2 + cntN f (n / 2)
theorem cnt_le : ∀ {f n : Nat}, n < 2 ^ f → cntN (f + 1) n = cntN f n
  | 0, n, h => by have : n = 0 := by simpa using h
                  subst this; rfl
  | f + 1, n, h => by
    have := cnt_le (f := f) (n := n / 2) (by rw [Nat.pow_succ] at h; omega)
    show n % 2 + cntN (f + 1) (n / 2) = n % 2 + cntN f (n / 2)
    rw [this]
theorem cnt_s {n : Nat} (h : n < 16777216) : cntN 24 n = n % 2 + cntN 24 (n / 2) := by
  rw [cnt_le (f := 23) (n := n / 2) (by omega)]; rfl
set_option maxRecDepth 100000 in
set_option maxHeartbeats 8000000 in
theorem fn_Count (G : Glob) (n : Nat) (hn : n < 16777216) : Fn G Try.prog 22 [.int .i64 n] (.int .i64 (cntN 24 n)) := by
  refine Fn.mk (c := _) Try.func22 rfl rfl Try.ntmps22 Try.results22 ?_
  (simp -dsimp only [bodyW, List.length_cons, List.length_nil, Nat.zero_add, Nat.reduceLeDiff, wfL, ↓z_seq, ↓z_region, ↓z_ops_plain, ↓z_assign, ↓evW_const, ↓constW_int, inR_i64, Int.reduceNeg, Int.reduceLE, and_self, ↓z_put, Nat.reduceLT, ↓z_ops_nil, ↓z_seq_nrm, ↓z_block, ↓z_loop, true_and])
  intro _
  refine hold_intro ⟨[], Nat × Nat, fun x => ⟨13, 0, [(0, .int .i64 (x.2 : Nat)), (3, .int .i64 (x.1 : Nat))], []⟩, fun x => x.2 < 16777216 ∧ x.1 + cntN 24 x.2 = cntN 24 n ∧ x.1 + x.2 ≤ 16777216, fun x => x.2, ?_, ?_⟩
  · (simp -dsimp only [↓z_ad_nil, ↓z_wk, ↓z_wkE_cons, ↓lkW_cons, reduceCtorEq, ↓reduceIte, ↓z_lk_env, D.int.injEq, true_and, ↓z_wkE_nil, and_true, ↓z_wkO_nil]); (try simp only [Int.toNat_natCast, Nat.mul_one, Bool.or_false, Bool.false_or, Bool.or_self, Bool.or_true])
    exact ⟨(0, n), by simp; omega⟩
  rintro ⟨c, m⟩ ⟨h1, h2, h3⟩
  have h1 : m < 16777216 := h1
  have h2 : c + cntN 24 m = cntN 24 n := h2
  have h3 : c + m ≤ 16777216 := h3
  have e1 : (m : Int).tmod 2 = ((m % 2 : Nat) : Int) := by rw [Int.tmod_eq_emod_of_nonneg (by omega)]; omega
  have e2 : (m : Int).tdiv 2 = ((m / 2 : Nat) : Int) := by rw [Int.tdiv_eq_ediv_of_nonneg (by omega)]; omega
  have e3 := cnt_s h1
  (simp -dsimp only [↓z_seq, ↓z_region, ↓z_ops_plain, ↓z_move, ↓evW_tmp, ↓lkW_cons, ↓reduceIte, ↓z_put, Nat.reduceLT, ↓z_binOp, ↓evW_const, ↓constW_int, inR_i64, Int.reduceNeg, Int.reduceLE, and_self, ↓z_bn_gtr, ↓z_ops_nil, ↓z_seq_nrm, ↓z_cond, ↓z_cnd, ↓z_gdt, ↓z_skip, ↓z_block, Nat.reduceEqDiff, reduceCtorEq, ↓z_bn_rem, ↓z_rem_i64, ne_eq, Int.reduceEq, not_false_eq_true, ↓z_bn_add, ↓wrW_i64, ↓z_assign, ↓z_bn_quo, ↓z_quo_i64, ↓z_blk_nrm, ↓z_lp_nrm, ↓z_wk, ↓z_wkE_cons, D.int.injEq, true_and, ↓z_wkE_nil, and_true, ↓z_wkO_nil, ↓z_exit, ↓z_seq_ext, ↓z_lp_ext, ↓z_blk_ext, ↓z_ret, ↓z_end_rt, resLW, res1W, ↓z_coeL_cons, ↓z_coeL_nil, ↓z_pack1, ↓z_coe_int, z_ite]); (try simp only [Int.toNat_natCast, Nat.mul_one, Bool.or_false, Bool.false_or, Bool.or_self, Bool.or_true])
  rw [e1, e2]
  refine ⟨fun g => ⟨by omega, by omega, (c + m % 2, m / 2), ⟨by show m / 2 < _; omega, by show c + m % 2 + cntN 24 (m / 2) = _; omega, by show c + m % 2 + m / 2 ≤ _; omega⟩, by show m / 2 < m; omega, rfl, by simp⟩, fun g => ?_⟩
  have : m = 0 := by omega
  subst this
  have : cntN 24 0 = 0 := by decide
  omega
/-- The set of those k at which q holds. -/
def setN (q : Nat → Bool) : Nat → Nat
  | 0 => 0
  | k + 1 => if q k = true then setN q k ||| 2 ^ k else setN q k
theorem setN_lt {q : Nat → Bool} {k : Nat} (hk : k ≤ 24) : setN q k < 2 ^ 24 := by
  induction k with
  | zero => exact Nat.two_pow_pos 24
  | succ k ih =>
    have := ih (by omega)
    simp only [setN]
    split
    · exact Nat.or_lt_two_pow this (Nat.pow_lt_pow_right (by omega) (by omega))
    · exact this
theorem setN_bit {q : Nat → Bool} {k i : Nat} : (setN q k).testBit i = (decide (i < k) && q i) := by
  induction k with
  | zero => simp [setN]
  | succ k ih =>
    simp only [setN]
    split
    · rename_i h
      rw [Nat.testBit_or, ih, Nat.testBit_two_pow]
      by_cases e : k = i
      · subst e; simp [h]
      · rw [decide_eq_false e, Bool.or_false]
        congr 1
        exact decide_eq_decide.2 (by omega)
    · rename_i h
      rw [ih]
      by_cases e : k = i
      · subst e; simp [h]
      · congr 1
        exact decide_eq_decide.2 (by omega)
def leftQ (d : List Int) (r : List (Int × Bool)) (h : List Int) (o lv : Int) (lay bad : List Int) (k : Nat) : Bool :=
  decide (0 ≤ ofD d r h o lv (lay.getD k 0) ∧ ¬ ofD d r h o lv (lay.getD k 0) ∈ bad)
def leftN (d : List Int) (r : List (Int × Bool)) (h : List Int) (o lv : Int) (lay bad : List Int) : Nat :=
  if 24 < lay.length then 0 else setN (leftQ d r h o lv lay bad) lay.length
set_option maxRecDepth 100000 in
set_option maxHeartbeats 8000000 in
theorem fn_Left (G : Glob) (d : List Int) (r : List (Int × Bool)) (h : List Int) (o lv : Int) (lay bad : List Int) : Fn G Try.prog 20 [.agg (domA d r h o), .int .i64 lv, .sl 1 lay.length (lay.map (D.int .i64)), .sl 1 bad.length (bad.map (D.int .i64))] (.int .i64 (leftN d r h o lv lay bad)) := by
  unfold domA
  refine Fn.mk (c := _) Try.func20 rfl rfl Try.ntmps20 Try.results20 ?_
  (simp -dsimp only [bodyW, List.length_cons, List.length_nil, Nat.zero_add, Nat.reduceAdd, Nat.reduceLeDiff, wfL, ↓z_seq, ↓z_region, ↓z_ops_plain, ↓z_box, ↓evW_tmp, ↓z_lk_env, ↓reduceIte, ↓z_cl_agg, ↓z_nmC_cons, ↓z_mn'_sl, ↓z_mn'_int, ↓z_nmC_nil, and_self, ↓z_new, ↓z_nm_nil, Nat.reduceLT, ↓z_pg_env, ↓z_mn_agg, ↓z_mn_int, ↓z_mn_sl, ↓z_pg_env0, ↓z_put, ↓z_assign, ↓evW_const, ↓constW_int, inR_i64, Int.reduceNeg, Int.reduceLE, ↓z_ops_nil, ↓z_seq_nrm, ↓z_move, ↓lkW_cons, Nat.reduceEqDiff, reduceCtorEq, ↓z_callb, ↓z_evL_cons, ↓z_evL_nil, ↓z_len, ↓y_ty22, ↓z_ln_sl, ↓z_binOp, ↓z_bn_gtr, ↓z_cond, ↓z_cnd, ↓z_gdt, ↓z_ret, ↓z_seq_rt, ↓z_end_rt, resLW, res1W, ↓z_coeL_cons, ↓z_coeL_nil, ↓z_pack1, ↓z_coe_int, D.int.injEq, true_and, ↓z_skip, ↓z_block, ↓z_loop, z_ite])
  intro hd _ hl hb
  unfold leftN
  refine ⟨fun g => by rw [if_pos (by omega)]; rfl, fun g => ?_⟩
  rw [if_neg (by omega)]
  refine hold_intro ⟨[], Nat, fun i => ⟨42, 1, [(19, .int .i64 i), (18, .int .i64 lay.length), (17, .sl 1 lay.length (lay.map (D.int .i64))), (9, .int .i64 (setN (leftQ d r h o lv lay bad) i)), (4, .ptr 0 0), (1, .int .i64 lv), (3, .sl 1 bad.length (bad.map (D.int .i64)))], [(0, domA d r h o)]⟩, fun i => i ≤ lay.length, fun i => lay.length - i, ?_, ?_⟩
  · unfold domA; (simp -dsimp only [↓z_ad_nil, ↓z_wk, ↓z_wkE_cons, ↓lkW_cons, ↓reduceIte, D.int.injEq, true_and, Nat.reduceEqDiff, reduceCtorEq, Nat.zero_add, Nat.reduceAdd, ↓z_wkE_nil, and_self, and_true, ↓z_wkO_cons, ↓lkoW_cons, ↓z_wkO_nil]); (try simp only [Int.toNat_natCast, Nat.mul_one, Bool.or_false, Bool.false_or, Bool.or_self, Bool.or_true])
    exact ⟨0, by simp [setN]⟩
  rintro i hi
  unfold domA
  (simp -dsimp only [↓z_seq, ↓z_region, ↓z_ops_plain, ↓z_binOp, ↓evW_tmp, ↓lkW_cons, ↓reduceIte, Nat.reduceEqDiff, ↓z_bn_lss, ↓z_put, Nat.reduceLT, ↓z_ops_nil, ↓z_seq_nrm, ↓z_cond, ↓z_cnd, ↓z_gdt, ↓z_skip, ↓z_block, ↓z_move, ↓z_indexAddr, ↓y_ty22, ↓z_elTy_sl, ↓y_sz3, ↓z_ix_sl, ↓z_load, ↓y_ty3, ↓z_agTy_int, ↓loadW_rop, ↓z_rd_f, ↓z_nth_int, ↓z_assign, ↓y_ty25, ↓y_sz25, ↓z_agTy_st, ↓loadW_ptr, ↓lkoW_cons, ↓z_rd_t, Nat.zero_add, List.length_cons, List.length_nil, Nat.reduceAdd, Nat.reduceLeDiff, ↓z_sub_c, ↓z_sub_nil, ↓z_callv, ↓evW_func, ↓z_evL_cons, ↓z_evL_nil, ↓z_fun0, ↓z_coeL_cons, ↓z_coe_oag, ↓z_coeC_cons, ↓z_coeS_sl, ↓z_coeS_int, ↓z_coeC_nil, ↓z_coe_int, ↓z_coeL_nil, true_and, Nat.mul_one, ↓z_exit, ↓z_seq_ext, ↓z_lp_ext, ↓z_blk_ext, ↓z_ret, ↓z_end_rt, resLW, res1W, ↓z_pack1, D.int.injEq, z_ite]); (try simp only [Int.toNat_natCast])
  refine ⟨fun hlt => ⟨by omega, by omega, by omega, ?_⟩, fun hge => ?_⟩
  · refine call_fn (fn_Of G d r h o lv _) fun _ => ?_
    (simp -dsimp only [↓z_put, Nat.reduceLT, ↓z_ops_plain, ↓z_assign, ↓evW_tmp, ↓lkW_cons, ↓reduceIte, ↓z_ops_nil, ↓z_seq_nrm, ↓z_seq, ↓z_region, ↓z_move, ↓z_binOp, ↓evW_const, ↓constW_int, inR_i64, Int.reduceNeg, Int.reduceLE, and_self, ↓z_bn_geq, ↓z_ops_guard, ↓z_grd, ↓z_dst_s, ↓z_dst_0, ↓z_grdD_b, ↓z_gdt, Nat.mul_one, Nat.reduceEqDiff, ↓z_gtt, ↓z_callv, ↓evW_func, ↓z_evL_cons, ↓z_evL_nil, ↓z_fun0, ↓z_coeL_cons, ↓z_coe_sl, ↓z_coe_int, ↓z_coeL_nil, true_and, ↓z_gnt, ↓z_gtf, ↓z_pick, ↓z_pick_b, ↓constW_bool, ↓z_cond, ↓z_cnd, ↓z_gft, ↓z_skip, ↓z_blk_nrm, ↓z_bn_add, ↓wrW_i64, ↓z_lp_nrm, ↓z_wk, ↓z_wkE_cons, D.int.injEq, ↓z_wkE_nil, and_true, ↓z_wkO_cons, ↓lkoW_cons, ↓z_wkO_nil, z_ite]); (try simp only [Int.toNat_natCast, Nat.mul_one, Bool.or_false, Bool.false_or, Bool.or_self, Bool.or_true])
    refine ⟨fun g2 => ?_, fun g2 => ?_⟩
    · refine call_fn (fn_Contains G bad _) fun _ => ?_
      (simp -dsimp only [↓z_put, Nat.reduceLT, ↓z_ops_guard, ↓z_grd, ↓z_dst_s, ↓z_dst_0, ↓lkW_cons, Nat.reduceEqDiff, ↓reduceIte, ↓z_grdD_b, ↓z_gtt, ↓z_unOp, ↓evW_tmp, ↓z_un_not, ↓z_ops_plain, ↓z_pick, ↓z_pick_b, ↓z_ops_nil, ↓z_seq_nrm, ↓z_cond, ↓z_cnd, ↓z_gnt, ↓z_gdf, Nat.mul_one, ↓z_skip, ↓z_blk_nrm, ↓z_region, ↓z_binOp, ↓evW_const, ↓constW_int, inR_i64, Int.reduceNeg, Int.reduceLE, and_self, ↓z_bn_add, ↓wrW_i64, ↓z_move, ↓z_lp_nrm, ↓z_wk, ↓z_wkE_cons, D.int.injEq, true_and, ↓z_wkE_nil, and_true, ↓z_wkO_cons, ↓lkoW_cons, ↓z_wkO_nil, ↓z_bn_shl, ↓z_bn_or, ↓z_assign, z_ite]); (try simp only [Int.toNat_natCast, Nat.mul_one, Bool.or_false, Bool.false_or, Bool.or_self, Bool.or_true])
      have eq1 : lay.getD i 0 = lay[i] := getD_at (by omega)
      have hn := setN_lt (q := leftQ d r h o lv lay bad) (k := i) (by omega)
      refine ⟨fun g3 => ⟨by omega, i + 1, by omega, by omega, by omega, ?_⟩, fun g3 => ⟨by omega, by omega, i + 1, by omega, by omega, by omega, ?_⟩⟩
      · have : leftQ d r h o lv lay bad i = false := by unfold leftQ; rw [eq1]; exact decide_eq_false fun hh => hh.2 g3
        simp only [setN, this]; rfl
      · have : leftQ d r h o lv lay bad i = true := by unfold leftQ; rw [eq1]; exact decide_eq_true ⟨g2, g3⟩
        have h24 : (2 : Nat) ^ i < 2 ^ 24 := Nat.pow_lt_pow_right (by omega) (by omega)
        rw [shl_one (by omega), i64_or_nat _ _ (by omega) (by omega)]
        simp only [setN, this, if_true]
    · have eq1 : lay.getD i 0 = lay[i] := getD_at (by omega)
      refine ⟨by omega, i + 1, by omega, by omega, by omega, ?_⟩
      have : leftQ d r h o lv lay bad i = false := by unfold leftQ; rw [eq1]; exact decide_eq_false fun hh => g2 hh.1
      simp only [setN, this]; rfl
  · have : i = lay.length := by omega
    rw [this]
end Go.Abs

