/-
  WIRE, fourth walks: an integer's decoding, by the package.
-/
import Derived.Test.YtkhjapkjhjkdiaaW3
import Derived.Lib.VarintBits
namespace Go.Abs
open Go.Proofs

/-- An integer's digits, from the k-th: the error, or the number and how many bytes it took. -/
def gi (k z : Nat) : List UInt8 → Except Int (Nat × Nat)
  | [] => .error 10
  | c :: r =>
    if k = 9 ∧ 1 < c.toNat ∨ 0 < k ∧ c.toNat = 0 then .error 11
    else if c.toNat < 128 then .ok (z + c.toNat * 128 ^ k, k + 1)
    else gi (k + 1) (z + c.toNat % 128 * 128 ^ k) r
/-- Three results of a decoding. -/
def t3 (a : D) (n e : Int) : D := .tup [a, .int .i64 n, .int .i64 e]
def giD (r : Except Int (Nat × Nat)) : D :=
  match r with
  | .ok (z, u) => t3 (.int .i64 (Lib.unzigzag z)) u 0
  | .error e => t3 (.int .i64 0) 0 e

theorem or7 {i z c : Nat} (hi : i ≤ 9) (hz : z < 128 ^ i) (hc : c < 256) (h9 : i = 9 → c ≤ 1) :
    bits .or .u64 (z : Int) (shlI .u64 (bits .and .u8 (c : Int) 127) (7 * (i : Int))) = ((z + c % 128 * 128 ^ i : Nat) : Int) ∧ z + c % 128 * 128 ^ i < 18446744073709551616 := by
  have e1 : bits .and .u8 (c : Int) 127 = ((c % 128 : Nat) : Int) := by
    have := bits_mask .u8 8 (by decide) wraps_u8 7 (by decide) (c : Int) (by omega) (by omega)
    have e : ((2 : Int) ^ 7 - 1) = 127 := rfl
    rw [e] at this; rw [this]; omega
  have e2 : min (7 * (i : Int)).toNat IntKind.u64.bits = 7 * i := by show min _ 64 = _; omega
  have e3 : (128 : Nat) ^ i = 2 ^ (7 * i) := by rw [Nat.pow_mul]
  have hb : c % 128 * 128 ^ i < 18446744073709551616 ∧ z + c % 128 * 128 ^ i < 18446744073709551616 := by
    by_cases h : i = 9
    · subst h
      have := h9 rfl
      have h2 : c % 128 ≤ 1 := by omega
      omega
    · have h3 : (128 : Nat) ^ (i + 1) ≤ 128 ^ 9 := Nat.pow_le_pow_right (by decide) (by omega)
      have h4 : c % 128 * 128 ^ i ≤ 127 * 128 ^ i := Nat.mul_le_mul_right _ (by omega)
      rw [Nat.pow_succ] at h3
      omega
  have e4 : shlI .u64 ((c % 128 : Nat) : Int) (7 * (i : Int)) = ((c % 128 * 128 ^ i : Nat) : Int) := by
    unfold shlI
    rw [e2, wrap64]
    have : ((c % 128 : Nat) : Int) * 2 ^ (7 * i) = ((c % 128 * 128 ^ i : Nat) : Int) := by rw [e3]; push_cast; rfl
    rw [this]
    omega
  rw [e1, e4, bits_or_u64_nat _ _ (by omega) hb.1]
  refine ⟨?_, hb.2⟩
  congr 1
  rw [e3] at hz ⊢
  have := Nat.shiftLeft_add_eq_or_of_lt hz (c % 128)
  rw [Nat.shiftLeft_eq] at this
  rw [Nat.or_comm, ← this, Nat.add_comm]

theorem xor_m1 (x : Int) (y : Int) : bits .xor .i64 x y = bits .xor .i64 y x := by
  show IntKind.i64.wrap ((BitVec.ofInt 64 x ^^^ BitVec.ofInt 64 y).toNat : Int) = IntKind.i64.wrap ((BitVec.ofInt 64 y ^^^ BitVec.ofInt 64 x).toNat : Int)
  rw [BitVec.xor_comm]
theorem xor_0 (x : Nat) (hx : x < 9223372036854775808) : bits .xor .i64 (x : Int) 0 = x := by
  show IntKind.i64.wrap ((BitVec.ofInt 64 (x : Int) ^^^ BitVec.ofInt 64 0).toNat : Int) = _
  have h2 : (BitVec.ofInt 64 (x : Int)).toNat = x := by
    rw [BitVec.ofInt_natCast, BitVec.toNat_ofNat]; exact Nat.mod_eq_of_lt (by omega)
  have h1 : (BitVec.ofInt 64 0).toNat = 0 := by decide
  rw [BitVec.toNat_xor, h1, h2, Nat.xor_zero, IntKind.wrap_i64]
  omega
theorem unzz {z : Nat} (hz : z < 18446744073709551616) :
    (-9223372036854775808 ≤ 0 - IntKind.i64.wrap (bits .and .u64 (z : Int) 1) ∧ 0 - IntKind.i64.wrap (bits .and .u64 (z : Int) 1) ≤ 9223372036854775807) ∧
    bits .xor .i64 (IntKind.i64.wrap (shrI .u64 (z : Int) 1)) (0 - IntKind.i64.wrap (bits .and .u64 (z : Int) 1)) = Lib.unzigzag z := by
  have e1 : IntKind.i64.wrap (bits .and .u64 (z : Int) 1) = ((z % 2 : Nat) : Int) := by
    rw [Lib.u64_and1 _ (by omega) (by omega), IntKind.wrap_i64]; omega
  have e2 : IntKind.i64.wrap (shrI .u64 (z : Int) 1) = ((z / 2 : Nat) : Int) := by
    have : shrI .u64 (z : Int) 1 = (z : Int) / 2 := rfl
    rw [this, IntKind.wrap_i64]; omega
  rw [e1, e2]
  refine ⟨by omega, ?_⟩
  unfold Lib.unzigzag
  rcases Nat.mod_two_eq_zero_or_one z with h | h
  · rw [h, if_pos rfl]
    exact xor_0 _ (by omega)
  · rw [h, if_neg (by omega), xor_m1]
    exact Lib.i64_not _ (by omega)

set_option maxRecDepth 100000 in
set_option maxHeartbeats 4000000 in
theorem fn_GetInt (G : Glob) (b : List UInt8) : Fn G Try.prog 24 [.sl 1 b.length (b.map bD)] (giD (gi 0 0 b)) := by
  refine Fn.mk (c := _) Try.func24 rfl rfl Try.ntmps24 Try.results24 ?_
  (simp -dsimp only [bodyW, List.length_cons, List.length_nil, Nat.zero_add, Nat.reduceLeDiff, wfL, ↓z_seq, ↓z_region, ↓z_ops_plain, ↓z_assign, ↓evW_const, ↓constW_int, inR_i64, Int.reduceNeg, Int.reduceLE, and_self, ↓z_put, Nat.reduceLT, ↓z_ops_nil, ↓z_seq_nrm, ↓z_scope, inR_u64, ↓z_label, ↓z_move, ↓evW_tmp, ↓lkW_cons, reduceCtorEq, ↓reduceIte, ↓z_lk_env, ↓z_callb, ↓z_evL_cons, ↓z_evL_nil, ↓z_len, ↓y_ty28, ↓z_ln_sl, ↓z_block, ↓z_loop, true_and])
  intro hwf
  have hbl : b.length ≤ 9223372036854775807 := hwf.1.1
  refine hold_intro ⟨[], Nat × Nat, fun x => ⟨53, 0, [(11, .int .i64 x.1), (10, .int .i64 b.length), (9, .sl 1 b.length (b.map bD)), (5, .int .u64 x.2), (6, .int .i64 0)], []⟩,
    fun x => x.1 ≤ b.length ∧ x.1 ≤ 9 ∧ x.2 < 128 ^ x.1 ∧ gi 0 0 b = gi x.1 x.2 (b.drop x.1), fun x => b.length - x.1, ?_, ?_⟩
  · (simp -dsimp only [↓z_ad_nil, ↓z_wk, ↓z_wkE_cons, ↓lkW_cons, ↓reduceIte, D.int.injEq, true_and, Nat.reduceEqDiff, ↓z_wkE_nil, and_self, and_true, ↓z_wkO_nil]); (try simp only [Int.toNat_natCast, Nat.mul_one, Bool.or_false, Bool.false_or, Bool.or_self, Bool.or_true])
    exact ⟨(0, 0), ⟨by simp, by simp, by simp, by simp⟩, by simp⟩
  · rintro ⟨i, z⟩ ⟨hi, h9, hz, hg⟩
    simp only at hi h9 hz hg
    (simp -dsimp only [↓z_seq, ↓z_region, ↓z_ops_plain, ↓z_binOp, ↓evW_tmp, ↓lkW_cons, ↓reduceIte, Nat.reduceEqDiff, ↓z_bn_lss, ↓z_put, Nat.reduceLT, ↓z_ops_nil, ↓z_seq_nrm, ↓z_cond, ↓z_cnd, ↓z_gdt, ↓z_skip, ↓z_block, ↓z_move, ↓z_indexAddr, ↓y_ty28, ↓z_elTy_sl, ↓y_sz5, ↓z_ix_sl, ↓z_load, ↓y_ty5, ↓z_agTy_int, ↓loadW_rop, ↓z_rd_f, ↓z_nth_bytes, ↓z_assign, ↓evW_const, ↓constW_int, inR_i64, Int.reduceNeg, Int.reduceLE, and_self, ↓z_bn_eql, ↓z_ops_guard, ↓z_grd, ↓z_dst_s, ↓z_dst_0, ↓z_grdD_b, ↓z_gtt, inR_u8, ↓z_bn_gtr, ↓z_pick, ↓z_pick_b, Nat.mul_one, ↓z_ret, ↓z_blk_rt, ↓z_seq_rt, ↓z_lp_rt, ↓z_end_rt, resLW, res1W, ↓z_coeL_cons, ↓z_coeL_nil, ↓z_pack2, ↓z_coe_int, true_and, ↓z_bn_and, ↓z_convert, ↓y_ty58, ↓z_cvt_int, ↓z_cv_int, ↓z_cvi_u8_u64, ↓z_bn_mul, ↓wrW_i64, ↓z_bn_shl, ↓z_bn_or, ↓z_blk_nrm, ↓z_bn_add, ↓z_exit, ↓z_blk_ext, reduceCtorEq, ↓z_seq_ext, ↓z_lp_ext, inR_u64, ↓z_bn_shr, ↓y_ty3, ↓z_cvi_u64_i64, ↓z_unOp, ↓z_un_neg, ↓z_bn_xor, z_ite, ↓z_lp_nrm, ↓z_wk, ↓z_wkE_cons, D.int.injEq, ↓z_wkE_nil, and_true, ↓z_wkO_nil, ↓z_gnt, ↓z_gtf, ↓constW_bool, ↓z_gft, Bool.not_true]); (try simp only [Int.toNat_natCast])
    rw [hg]
    refine ⟨fun hlt => ?_, fun hge => ?_⟩
    · have hlt : i < b.length := by omega
      refine ⟨by omega, by omega, hlt, ?_⟩
      have hc := b[i].toNat_lt
      have hd : b.drop i = b[i] :: b.drop (i + 1) := List.drop_eq_getElem_cons hlt
      rw [hd, gi]
      have next : ¬ (i = 9 ∧ 1 < b[i].toNat ∨ 0 < i ∧ b[i].toNat = 0) → ¬ b[i].toNat < 128 → gi 0 0 b = gi (i + 1) (z + b[i].toNat % 128 * 128 ^ i) (b.drop (i + 1)) := by
        intro h1 h2
        rw [hg, hd, gi, if_neg h1, if_neg h2]
      by_cases hbad : i = 9 ∧ 1 < b[i].toNat ∨ 0 < i ∧ b[i].toNat = 0
      · rw [if_pos hbad]
        refine ⟨?_, ?_⟩ <;> repeat' first | apply And.intro | intro _
        all_goals first | (exfalso; omega) | rfl | skip
      · rw [if_neg hbad]
        obtain ⟨ho, ho2⟩ := or7 (c := b[i].toNat) h9 hz hc (fun h => by omega)
        rw [ho]
        have hz2 : ¬ b[i].toNat < 128 → z + b[i].toNat % 128 * 128 ^ i < 128 ^ (i + 1) := by
          intro _
          have : b[i].toNat % 128 * 128 ^ i ≤ 127 * 128 ^ i := Nat.mul_le_mul_right _ (by omega)
          rw [Nat.pow_succ]; omega
        obtain ⟨hu1, hu2⟩ := unzz ho2
        by_cases hlast : b[i].toNat < 128
        · rw [if_pos hlast]
          have hm : b[i].toNat % 128 = b[i].toNat := Nat.mod_eq_of_lt hlast
          rw [hm] at hu1 hu2 ⊢
          refine ⟨?_, ?_⟩ <;> repeat' first | apply And.intro | intro _
          all_goals first | (exfalso; omega) | omega | exact hu1.1 | exact hu1.2 | (rw [hu2]; simp [giD, t3])
        · rw [if_neg hlast]
          refine ⟨?_, ?_⟩ <;> repeat' first | apply And.intro | intro _
          all_goals first | (exfalso; omega) | omega | exact ⟨(i + 1, z + b[i].toNat % 128 * 128 ^ i), ⟨by omega, by omega, hz2 hlast, rfl⟩, by simp only; omega, by simp, rfl⟩
    · have : i = b.length := by omega
      subst this
      simp [gi, giD, t3]
end Go.Abs

