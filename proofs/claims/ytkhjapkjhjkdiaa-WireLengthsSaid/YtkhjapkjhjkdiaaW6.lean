/-
  WIRE, sixth walks: lengths and byte strings, decoded.
-/
import Derived.Test.YtkhjapkjhjkdiaaW5
namespace Go.Abs
open Go.Proofs

/-- The three results of a decoding, as data. -/
def rD {α : Type} (f : α → D) (z : D) (r : Except Int (α × Nat)) : D :=
  match r with
  | .ok (x, u) => .tup [f x, .int .i64 u, .int .i64 0]
  | .error e => .tup [z, .int .i64 0, .int .i64 e]
theorem rD_ok {α : Type} (f : α → D) (z : D) (x : α) (u : Nat) : rD f z (.ok (x, u)) = .tup [f x, .int .i64 u, .int .i64 0] := rfl
theorem rD_err {α : Type} (f : α → D) (z : D) (e : Int) : rD f z (.error e) = .tup [z, .int .i64 0, .int .i64 e] := rfl
def decI (b : List UInt8) : Except Int (Int × Nat) := match gi 0 0 b with | .ok (z, u) => .ok (Lib.unzigzag z, u) | .error e => .error e
theorem giD_decI (b : List UInt8) : giD (gi 0 0 b) = rD (D.int .i64) (.int .i64 0) (decI b) := by
  unfold decI; cases gi 0 0 b <;> rfl
theorem gi_ok : ∀ {b : List UInt8} {k z x u : Nat}, gi k z b = .ok (x, u) → k + 1 ≤ u ∧ u ≤ k + b.length ∧ (k ≤ 9 → u ≤ 10)
  | [], k, z, x, u, h => by simp [gi] at h
  | c :: r, k, z, x, u, h => by
    rw [gi] at h
    split at h
    · cases h
    · split at h
      · cases h; simp
      · obtain ⟨h1, h2, h3⟩ := gi_ok h
        refine ⟨by omega, by simp only [List.length_cons]; omega, fun h9 => ?_⟩
        rename_i hb h128
        have : k ≠ 9 := fun e => hb (.inl ⟨e, by omega⟩)
        exact h3 (by omega)
theorem gi_err : ∀ {b : List UInt8} {k z : Nat} {e : Int}, gi k z b = .error e → e = 10 ∨ e = 11
  | [], k, z, e, h => by rw [gi] at h; cases h; exact .inl rfl
  | c :: r, k, z, e, h => by
    rw [gi] at h
    split at h
    · cases h; exact .inr rfl
    · split at h
      · cases h
      · exact gi_err h
theorem decI_ok {b : List UInt8} {n : Int} {u : Nat} (h : decI b = .ok (n, u)) : 1 ≤ u ∧ u ≤ b.length ∧ u ≤ 10 := by
  unfold decI at h
  split at h
  · rename_i z u' e; cases h; have := gi_ok e; omega
  · cases h
theorem decI_err {b : List UInt8} {e : Int} (h : decI b = .error e) : e = 10 ∨ e = 11 := by
  unfold decI at h
  split at h
  · cases h
  · rename_i e' he; cases h; exact gi_err he
theorem fn_GetInt' (G : Glob) (b : List UInt8) : Fn G Try.prog 24 [.sl 1 b.length (b.map bD)] (rD (D.int .i64) (.int .i64 0) (decI b)) := giD_decI b ▸ fn_GetInt G b
theorem fn_refGetInt' (G : Glob) (b : List UInt8) : Fn G Try.prog 25 [.sl 1 b.length (b.map bD)] (rD (D.int .i64) (.int .i64 0) (decI b)) := giD_decI b ▸ fn_refGetInt G b

/-- A length: of a list whose elements take at least so many bytes. -/
def decN (b : List UInt8) (least : Nat) : Except Int (Nat × Nat) :=
  match decI b with
  | .error e => .error e
  | .ok (n, u) => if n < 0 then .error 11 else if n > ((b.length - u) / least : Nat) then .error 10 else .ok (n.toNat, u)
theorem decN_ok {b : List UInt8} {least n u : Nat} (h : decN b least = .ok (n, u)) : 1 ≤ u ∧ u ≤ b.length ∧ u ≤ 10 ∧ n ≤ (b.length - u) / least := by
  unfold decN at h
  split at h
  · cases h
  · rename_i m u' e
    have := decI_ok e
    split at h
    · cases h
    · split at h
      · cases h
      · cases h; omega
theorem decN_err {b : List UInt8} {least : Nat} {e : Int} (h : decN b least = .error e) : e = 10 ∨ e = 11 := by
  unfold decN at h
  split at h
  · rename_i e' he; cases h; exact decI_err he
  · split at h
    · cases h; exact .inr rfl
    · split at h
      · cases h; exact .inl rfl
      · cases h
theorem tdiv_nat {a b u : Nat} (h : u ≤ a) : ((a : Int) - (u : Int)).tdiv (b : Int) = (((a - u) / b : Nat) : Int) := by
  rw [← Int.ofNat_sub h]; exact (Int.ofNat_tdiv _ _).symm ▸ rfl

set_option maxRecDepth 100000 in
set_option maxHeartbeats 4000000 in
theorem fn_length (G : Glob) (b : List UInt8) (least : Nat) (hl : 0 < least) : Fn G Try.prog 42 [.sl 1 b.length (b.map bD), .int .i64 least] (rD (fun n : Nat => D.int .i64 n) (.int .i64 0) (decN b least)) := by
  refine Fn.mk (c := _) Try.func42 rfl rfl Try.ntmps42 Try.results42 ?_
  (simp -dsimp only [bodyW, List.length_cons, List.length_nil, Nat.zero_add, Nat.reduceAdd, Nat.reduceLeDiff, wfL, ↓z_seq, ↓z_region, ↓z_ops_plain, ↓z_assign, ↓evW_const, ↓constW_int, inR_i64, Int.reduceNeg, Int.reduceLE, and_self, ↓z_put, Nat.reduceLT, ↓z_ops_nil, ↓z_seq_nrm, ↓z_move, ↓evW_tmp, ↓lkW_cons, reduceCtorEq, ↓reduceIte, ↓z_lk_env, ↓z_callv, ↓evW_func, ↓z_evL_cons, ↓z_evL_nil, ↓z_fun0, ↓z_coeL_cons, ↓z_coe_sl, ↓z_coeL_nil, true_and])
  intro hwf _
  have hbl : b.length ≤ 9223372036854775807 := hwf.1.1
  refine call_fn (fn_GetInt' G b) fun _ => ?_
  unfold decN
  cases h : decI b with
  | error e =>
    have he := decI_err h
    (simp -dsimp only [↓z_put, Nat.reduceLT, ↓z_ops_plain, ↓z_move, ↓evW_tmp, ↓lkW_cons, ↓reduceIte, ↓z_extract, rD_err, Nat.reduceEqDiff, ↓z_assign, ↓z_ops_nil, ↓z_seq_nrm, ↓z_seq, ↓z_block, ↓z_region, ↓z_binOp, ↓evW_const, ↓constW_int, inR_i64, Int.reduceNeg, Int.reduceLE, and_self, ↓z_cond, ↓z_ret, ↓z_blk_rt, ↓z_seq_rt, ↓z_end_rt, resLW, res1W, ↓z_coeL_cons, ↓z_coeL_nil, ↓z_pack2, D.tup.injEq, List.cons.injEq, and_true, ↓z_coe_int, true_and, D.int.injEq, reduceCtorEq, ↓z_lk_env, ↓z_callb, ↓z_evL_cons, ↓z_evL_nil, ↓z_len, ↓y_ty28, ↓z_ln_sl, Nat.zero_add, ↓z_skip, ↓z_blk_nrm, ↓z_ex, ↓nthW_cons, Nat.reduceSub, ↓z_bn_neq, ↓z_cnd, ↓z_gdt, ne_eq, z_ite, Classical.not_not, ↓z_bn_sub, ↓wrW_i64, ↓z_bn_quo, ↓z_quo_i64, ↓z_bn_lss, Int.reduceLT, ↓z_bn_gtr]); (try simp only [Int.toNat_natCast, Nat.mul_one, Bool.or_false, Bool.false_or, Bool.or_self, Bool.or_true])
    exact ⟨fun _ => trivial, fun h0 => by exfalso; omega⟩
  | ok p =>
    obtain ⟨n, u⟩ := p
    have hu := decI_ok h
    (simp -dsimp only [↓z_put, Nat.reduceLT, ↓z_ops_plain, ↓z_move, ↓evW_tmp, ↓lkW_cons, ↓reduceIte, ↓z_extract, rD_ok, Nat.reduceEqDiff, ↓z_assign, ↓z_ops_nil, ↓z_seq_nrm, ↓z_seq, ↓z_block, ↓z_region, ↓z_binOp, ↓evW_const, ↓constW_int, inR_i64, Int.reduceNeg, Int.reduceLE, and_self, ↓z_cond, ↓z_ret, ↓z_blk_rt, ↓z_seq_rt, ↓z_end_rt, resLW, res1W, ↓z_coeL_cons, ↓z_coeL_nil, ↓z_pack2, ↓z_coe_int, true_and, reduceCtorEq, ↓z_lk_env, ↓z_callb, ↓z_evL_cons, ↓z_evL_nil, ↓z_len, ↓y_ty28, ↓z_ln_sl, Nat.zero_add, ↓z_skip, ↓z_blk_nrm, ↓z_ex, ↓nthW_cons, Nat.reduceSub, ↓z_bn_neq, ↓z_cnd, ↓z_gdt, ne_eq, not_true_eq_false, ↓z_bn_sub, ↓wrW_i64, ↓z_bn_quo, ↓z_quo_i64, ↓z_bn_lss, ↓z_bn_gtr, z_ite]); (try simp only [Int.toNat_natCast, Nat.mul_one, Bool.or_false, Bool.false_or, Bool.or_self, Bool.or_true])
    have hd := Nat.div_le_self (b.length - u) least
    rw [tdiv_nat hu.2.1]
    generalize (b.length - u) / least = q at *
    refine ⟨fun h0 => by rw [if_pos h0]; rfl, fun h0 => ⟨by omega, by omega, by omega, fun h1 => by rw [if_neg h0, if_pos h1]; rfl, fun h1 => ?_⟩⟩
    rw [if_neg h0, if_neg (show ¬ n > (q : Int) by omega), rD_ok]
    simp only [D.tup.injEq, List.cons.injEq, D.int.injEq, true_and, and_true]; omega

set_option maxRecDepth 100000 in
set_option maxHeartbeats 4000000 in
theorem fn_refLength (G : Glob) (b : List UInt8) (least : Nat) (hl : 0 < least) : Fn G Try.prog 44 [.sl 1 b.length (b.map bD), .int .i64 least] (rD (fun n : Nat => D.int .i64 n) (.int .i64 0) (decN b least)) := by
  refine Fn.mk (c := _) Try.func44 rfl rfl Try.ntmps44 Try.results44 ?_
  (simp -dsimp only [bodyW, List.length_cons, List.length_nil, Nat.zero_add, Nat.reduceAdd, Nat.reduceLeDiff, wfL, ↓z_seq, ↓z_region, ↓z_ops_plain, ↓z_assign, ↓evW_const, ↓constW_int, inR_i64, Int.reduceNeg, Int.reduceLE, and_self, ↓z_put, Nat.reduceLT, ↓z_ops_nil, ↓z_seq_nrm, ↓z_move, ↓evW_tmp, ↓lkW_cons, reduceCtorEq, ↓reduceIte, ↓z_lk_env, ↓z_callv, ↓evW_func, ↓z_evL_cons, ↓z_evL_nil, ↓z_fun0, ↓z_coeL_cons, ↓z_coe_sl, ↓z_coeL_nil, true_and])
  intro hwf _
  have hbl : b.length ≤ 9223372036854775807 := hwf.1.1
  refine call_fn (fn_refGetInt' G b) fun _ => ?_
  unfold decN
  cases h : decI b with
  | error e =>
    have he := decI_err h
    (simp -dsimp only [↓z_put, Nat.reduceLT, ↓z_ops_plain, ↓z_move, ↓evW_tmp, ↓lkW_cons, ↓reduceIte, ↓z_extract, rD_err, Nat.reduceEqDiff, ↓z_assign, ↓z_ops_nil, ↓z_seq_nrm, ↓z_seq, ↓z_region, ↓z_binOp, ↓evW_const, ↓constW_int, inR_i64, Int.reduceNeg, Int.reduceLE, and_self, ↓z_cond, ↓z_ret, ↓z_seq_rt, ↓z_end_rt, resLW, res1W, ↓z_coeL_cons, ↓z_coeL_nil, ↓z_pack2, D.tup.injEq, List.cons.injEq, and_true, ↓z_coe_int, true_and, ↓z_skip, D.int.injEq, reduceCtorEq, ↓z_lk_env, ↓z_callb, ↓z_evL_cons, ↓z_evL_nil, ↓z_len, ↓y_ty28, ↓z_ln_sl, Nat.zero_add, ↓z_ex, ↓nthW_cons, Nat.reduceSub, ↓z_bn_neq, ↓z_cnd, ↓z_gdt, ne_eq, z_ite, Classical.not_not, ↓z_bn_sub, ↓wrW_i64, ↓z_bn_quo, ↓z_quo_i64, ↓z_bn_lss, Int.reduceLT, ↓z_bn_gtr]); (try simp only [Int.toNat_natCast, Nat.mul_one, Bool.or_false, Bool.false_or, Bool.or_self, Bool.or_true])
    exact ⟨fun _ => trivial, fun h0 => by exfalso; omega⟩
  | ok p =>
    obtain ⟨n, u⟩ := p
    have hu := decI_ok h
    (simp -dsimp only [↓z_put, Nat.reduceLT, ↓z_ops_plain, ↓z_move, ↓evW_tmp, ↓lkW_cons, ↓reduceIte, ↓z_extract, rD_ok, Nat.reduceEqDiff, ↓z_assign, ↓z_ops_nil, ↓z_seq_nrm, ↓z_seq, ↓z_region, ↓z_binOp, ↓evW_const, ↓constW_int, inR_i64, Int.reduceNeg, Int.reduceLE, and_self, ↓z_cond, ↓z_ret, ↓z_seq_rt, ↓z_end_rt, resLW, res1W, ↓z_coeL_cons, ↓z_coeL_nil, ↓z_pack2, ↓z_coe_int, true_and, ↓z_skip, reduceCtorEq, ↓z_lk_env, ↓z_callb, ↓z_evL_cons, ↓z_evL_nil, ↓z_len, ↓y_ty28, ↓z_ln_sl, Nat.zero_add, ↓z_ex, ↓nthW_cons, Nat.reduceSub, ↓z_bn_neq, ↓z_cnd, ↓z_gdt, ne_eq, not_true_eq_false, ↓z_bn_sub, ↓wrW_i64, ↓z_bn_quo, ↓z_quo_i64, ↓z_bn_lss, ↓z_bn_gtr, z_ite]); (try simp only [Int.toNat_natCast, Nat.mul_one, Bool.or_false, Bool.false_or, Bool.or_self, Bool.or_true])
    have hd := Nat.div_le_self (b.length - u) least
    rw [tdiv_nat hu.2.1]
    generalize (b.length - u) / least = q at *
    refine ⟨fun h0 => by rw [if_pos h0]; rfl, fun h0 => ⟨by omega, by omega, by omega, fun h1 => by rw [if_neg h0, if_pos h1]; rfl, fun h1 => ?_⟩⟩
    rw [if_neg h0, if_neg (show ¬ n > (q : Int) by omega), rD_ok]
    simp only [D.tup.injEq, List.cons.injEq, D.int.injEq, true_and, and_true]; omega

/-- A byte string, decoded. -/
def decB (b : List UInt8) : Except Int (List UInt8 × Nat) :=
  match decN b 1 with
  | .error e => .error e
  | .ok (n, u) => .ok ((b.drop u).take n, u + n)

set_option maxRecDepth 100000 in
set_option maxHeartbeats 4000000 in
theorem fn_GetBytes (G : Glob) (b : List UInt8) : Fn G Try.prog 26 [.sl 1 b.length (b.map bD)] (rD D.str (.str []) (decB b)) := by
  refine Fn.mk (c := _) Try.func26 rfl rfl Try.ntmps26 Try.results26 ?_
  (simp -dsimp only [bodyW, List.length_cons, List.length_nil, Nat.zero_add, Nat.reduceLeDiff, wfL, ↓z_seq, ↓z_region, ↓z_ops_plain, ↓z_assign, ↓evW_const, ↓constW_string, maxLen_lit, ↓z_put, Nat.reduceLT, ↓constW_int, inR_i64, Int.reduceNeg, Int.reduceLE, and_self, ↓z_ops_nil, ↓z_seq_nrm, ↓z_move, ↓evW_tmp, ↓lkW_cons, reduceCtorEq, ↓reduceIte, ↓z_lk_env, ↓z_callv, ↓evW_func, ↓z_evL_cons, ↓z_evL_nil, ↓z_fun0, ↓z_coeL_cons, ↓z_coe_sl, ↓z_coe_int, ↓z_coeL_nil, true_and])
  intro hwf
  have hbl : b.length ≤ 9223372036854775807 := hwf.1.1
  refine call_fn (fn_length G b 1 (by decide)) fun _ => ?_
  unfold decB
  cases h : decN b 1 with
  | error e =>
    have he := decN_err h
    (simp -dsimp only [↓z_put, Nat.reduceLT, ↓z_ops_plain, ↓z_move, ↓evW_tmp, ↓lkW_cons, ↓reduceIte, ↓z_extract, rD_err, Nat.reduceEqDiff, ↓z_assign, ↓z_ops_nil, ↓z_seq_nrm, ↓z_seq, ↓z_region, ↓z_binOp, ↓evW_const, ↓constW_int, inR_i64, Int.reduceNeg, Int.reduceLE, and_self, ↓z_cond, ↓constW_string, List.length_nil, maxLen_lit, Nat.reduceLeDiff, ↓z_ret, ↓z_seq_rt, ↓z_end_rt, resLW, res1W, ↓z_coeL_cons, ↓z_coeL_nil, ↓z_pack2, D.tup.injEq, List.cons.injEq, and_true, ↓z_coe_int, true_and, ↓z_coe_str, ↓z_skip, reduceCtorEq, ↓z_lk_env, ↓z_slice, ↓z_evO_some, ↓z_evO_none, ↓z_bo_none, ↓y_ty28, ↓z_seTy_sl, ↓y_sz5, ↓z_convert, ↓y_ty9, ↓z_cvt_bs, ↓y_ty5, ↓z_u8, ↓z_ex, ↓nthW_cons, Nat.reduceSub, ↓z_bn_neq, ↓z_cnd, ↓z_gdt, ne_eq, z_ite, Classical.not_not, ↓z_bo_some, ↓z_bn_add, ↓wrW_i64, ↓z_slc_sl_lh, ↓z_sub_map, ↓z_cv_bs_sl, ↓bsW_map, Int.reduceToNat, Nat.mul_one, D.int.injEq, D.str.injEq]); (try simp only [Int.toNat_natCast, Nat.mul_one, Bool.or_false, Bool.false_or, Bool.or_self, Bool.or_true])
    exact ⟨fun _ => trivial, fun h0 => by exfalso; omega⟩
  | ok p =>
    obtain ⟨n, u⟩ := p
    have hu := decN_ok h
    rw [Nat.div_one] at hu
    (simp -dsimp only [↓z_put, Nat.reduceLT, ↓z_ops_plain, ↓z_move, ↓evW_tmp, ↓lkW_cons, ↓reduceIte, ↓z_extract, rD_ok, Nat.reduceEqDiff, ↓z_assign, ↓z_ops_nil, ↓z_seq_nrm, ↓z_seq, ↓z_region, ↓z_binOp, ↓evW_const, ↓constW_int, inR_i64, Int.reduceNeg, Int.reduceLE, and_self, ↓z_cond, ↓constW_string, List.length_nil, maxLen_lit, Nat.reduceLeDiff, ↓z_ret, ↓z_seq_rt, ↓z_end_rt, resLW, res1W, ↓z_coeL_cons, ↓z_coeL_nil, ↓z_pack2, D.tup.injEq, List.cons.injEq, and_true, ↓z_coe_int, D.int.injEq, true_and, ↓z_coe_str, D.str.injEq, ↓z_skip, reduceCtorEq, ↓z_lk_env, ↓z_slice, ↓z_evO_some, ↓z_evO_none, ↓z_bo_none, ↓y_ty28, ↓z_seTy_sl, ↓y_sz5, ↓z_convert, ↓y_ty9, ↓z_cvt_bs, ↓y_ty5, ↓z_u8, ↓z_ex, ↓nthW_cons, Nat.reduceSub, ↓z_bn_neq, ↓z_cnd, ↓z_gdt, ne_eq, not_true_eq_false, ↓z_bo_some, ↓z_bn_add, ↓wrW_i64, ↓z_slc_sl_lh, ↓z_sub_map, ↓z_cv_bs_sl, ↓bsW_map, Nat.mul_one]); (try simp only [Int.toNat_natCast])
    have e : ((u : Int) + n).toNat - u = n := by omega
    rw [e]
    exact ⟨by omega, by omega, by omega, by omega, by omega, rfl, by omega⟩

set_option maxRecDepth 100000 in
set_option maxHeartbeats 4000000 in
theorem fn_refGetBytes (G : Glob) (b : List UInt8) : Fn G Try.prog 27 [.sl 1 b.length (b.map bD)] (rD D.str (.str []) (decB b)) := by
  refine Fn.mk (c := _) Try.func27 rfl rfl Try.ntmps27 Try.results27 ?_
  (simp -dsimp only [bodyW, List.length_cons, List.length_nil, Nat.zero_add, Nat.reduceLeDiff, wfL, ↓z_seq, ↓z_region, ↓z_ops_plain, ↓z_assign, ↓evW_const, ↓constW_string, maxLen_lit, ↓z_put, Nat.reduceLT, ↓constW_int, inR_i64, Int.reduceNeg, Int.reduceLE, and_self, ↓z_ops_nil, ↓z_seq_nrm, ↓z_move, ↓evW_tmp, ↓lkW_cons, reduceCtorEq, ↓reduceIte, ↓z_lk_env, ↓z_callv, ↓evW_func, ↓z_evL_cons, ↓z_evL_nil, ↓z_fun0, ↓z_coeL_cons, ↓z_coe_sl, ↓z_coeL_nil, true_and])
  intro hwf
  have hbl : b.length ≤ 9223372036854775807 := hwf.1.1
  refine call_fn (fn_refGetInt' G b) fun _ => ?_
  unfold decB decN
  cases h : decI b with
  | error e =>
    have he := decI_err h
    (simp -dsimp only [↓z_put, Nat.reduceLT, ↓z_ops_plain, ↓z_move, ↓evW_tmp, ↓lkW_cons, ↓reduceIte, ↓z_extract, rD_err, Nat.reduceEqDiff, ↓z_assign, ↓z_ops_nil, ↓z_seq_nrm, ↓z_seq, ↓z_region, ↓z_binOp, ↓evW_const, ↓constW_int, inR_i64, Int.reduceNeg, Int.reduceLE, and_self, ↓z_cond, ↓constW_string, List.length_nil, maxLen_lit, Nat.reduceLeDiff, ↓z_ret, ↓z_seq_rt, ↓z_end_rt, resLW, res1W, ↓z_coeL_cons, ↓z_coeL_nil, ↓z_pack2, D.tup.injEq, List.cons.injEq, and_true, ↓z_coe_int, true_and, ↓z_coe_str, ↓z_skip, D.int.injEq, reduceCtorEq, ↓z_lk_env, ↓z_callb, ↓z_evL_cons, ↓z_evL_nil, ↓z_len, ↓y_ty28, ↓z_ln_sl, ↓z_slice, ↓z_evO_some, ↓z_evO_none, ↓z_bo_none, ↓z_seTy_sl, ↓y_sz5, ↓z_convert, ↓y_ty9, ↓z_cvt_bs, ↓y_ty5, ↓z_u8, ↓z_ex, ↓nthW_cons, Nat.reduceSub, ↓z_bn_neq, ↓z_cnd, ↓z_gdt, ne_eq, z_ite, Classical.not_not, ↓z_bn_sub, ↓wrW_i64, ↓z_bo_some, ↓z_bn_lss, Int.reduceLT, ↓z_bn_gtr, ↓z_bn_add, ↓z_slc_sl_lh, ↓z_sub_map, ↓z_cv_bs_sl, ↓bsW_map, Int.reduceToNat, Nat.mul_one, D.str.injEq]); (try simp only [Int.toNat_natCast, Nat.mul_one, Bool.or_false, Bool.false_or, Bool.or_self, Bool.or_true])
    exact ⟨fun _ => trivial, fun h0 => by exfalso; omega⟩
  | ok p =>
    obtain ⟨n, u⟩ := p
    have hu := decI_ok h
    (simp -dsimp only [↓z_put, Nat.reduceLT, ↓z_ops_plain, ↓z_move, ↓evW_tmp, ↓lkW_cons, ↓reduceIte, ↓z_extract, rD_ok, Nat.reduceEqDiff, ↓z_assign, ↓z_ops_nil, ↓z_seq_nrm, ↓z_seq, ↓z_region, ↓z_binOp, ↓evW_const, ↓constW_int, inR_i64, Int.reduceNeg, Int.reduceLE, and_self, ↓z_cond, ↓constW_string, List.length_nil, maxLen_lit, Nat.reduceLeDiff, ↓z_ret, ↓z_seq_rt, ↓z_end_rt, resLW, res1W, ↓z_coeL_cons, ↓z_coeL_nil, ↓z_pack2, ↓z_coe_int, ↓z_coe_str, true_and, ↓z_skip, reduceCtorEq, ↓z_lk_env, ↓z_callb, ↓z_evL_cons, ↓z_evL_nil, ↓z_len, ↓y_ty28, ↓z_ln_sl, ↓z_slice, ↓z_evO_some, ↓z_evO_none, ↓z_bo_none, ↓z_seTy_sl, ↓y_sz5, ↓z_convert, ↓y_ty9, ↓z_cvt_bs, ↓y_ty5, ↓z_u8, ↓z_ex, ↓nthW_cons, Nat.reduceSub, ↓z_bn_neq, ↓z_cnd, ↓z_gdt, ne_eq, not_true_eq_false, ↓z_bn_sub, ↓wrW_i64, ↓z_bo_some, ↓z_bn_lss, ↓z_bn_gtr, ↓z_bn_add, ↓z_slc_sl_lh, ↓z_sub_map, ↓z_cv_bs_sl, ↓bsW_map, Nat.mul_one, z_ite]); (try simp only [Int.toNat_natCast])
    rw [Nat.div_one]
    refine ⟨fun h0 => by rw [if_pos h0]; rfl, fun h0 => ⟨by omega, fun h1 => by rw [if_neg h0, if_pos (by omega)]; rfl, fun h1 => ⟨by omega, by omega, by omega, by omega, by omega, ?_⟩⟩⟩
    have e : ((u : Int) + n).toNat - u = n.toNat := by omega
    rw [if_neg h0, if_neg (by omega), e]
    simp only [rD_ok, D.tup.injEq, List.cons.injEq, D.int.injEq, true_and, and_true]; omega
end Go.Abs

