/-
  WIRE, fifth walks: an integer's decoding, by the reference.
-/
import Derived.Test.YtkhjapkjhjkdiaaW4
namespace Go.Abs
open Go.Proofs

/-- The number that digits make, the least first. -/
def vs : List UInt8 → Nat
  | [] => 0
  | c :: r => c.toNat % 128 + 128 * vs r
theorem vs_snoc (c : UInt8) : ∀ (l : List UInt8), vs (l ++ [c]) = vs l + c.toNat % 128 * 128 ^ l.length
  | [] => by simp [vs]
  | d :: r => by
    simp only [List.cons_append, vs, vs_snoc c r, List.length_cons, Nat.pow_succ, Nat.mul_add]
    rw [Nat.mul_comm 128 (c.toNat % 128 * 128 ^ r.length), Nat.mul_assoc]; omega
theorem vs_lt : ∀ (l : List UInt8), vs l < 128 ^ l.length
  | [] => by simp [vs]
  | c :: r => by have := vs_lt r; simp only [vs, List.length_cons, Nat.pow_succ]; omega
theorem vs_drop : ∀ (l : List UInt8) (i : Nat), vs (l.drop i) ≤ vs l
  | [], i => by simp
  | c :: r, 0 => by simp
  | c :: r, i + 1 => by have := vs_drop r i; simp only [List.drop_succ_cons, vs]; omega
theorem vs_take {b : List UInt8} {k : Nat} (h : k < b.length) : vs (b.take (k + 1)) = vs (b.take k) + b[k].toNat % 128 * 128 ^ k := by
  have e1 : b.take (k + 1) = b.take k ++ [b[k]] := by simp
  rw [e1, vs_snoc, List.length_take, Nat.min_eq_left (by omega)]
theorem vs_at {b : List UInt8} {i : Nat} (h : i < b.length) : vs (b.drop i) = b[i].toNat % 128 + 128 * vs (b.drop (i + 1)) := by
  rw [List.drop_eq_getElem_cons h, vs]

set_option maxRecDepth 100000 in
set_option maxHeartbeats 4000000 in
theorem fn_refGetInt (G : Glob) (b : List UInt8) : Fn G Try.prog 25 [.sl 1 b.length (b.map bD)] (giD (gi 0 0 b)) := by
  refine Fn.mk (c := _) Try.func25 rfl rfl Try.ntmps25 Try.results25 ?_
  (simp -dsimp only [bodyW, List.length_cons, List.length_nil, Nat.zero_add, Nat.reduceLeDiff, wfL, ↓z_seq, ↓z_region, ↓z_ops_plain, ↓z_assign, ↓evW_const, ↓constW_int, inR_i64, Int.reduceNeg, Int.reduceLE, and_self, ↓z_put, Nat.reduceLT, ↓z_ops_nil, ↓z_seq_nrm, ↓z_block, ↓z_loop, true_and])
  intro hwf
  have hbl : b.length ≤ 9223372036854775807 := hwf.1.1
  refine hold_intro ⟨[], Nat, fun x => ⟨79, 0, [(0, .sl 1 b.length (b.map bD)), (5, .int .i64 x)], []⟩,
    fun x => x ≤ b.length ∧ (x ≤ 9 ∧ gi 0 0 b = gi x (vs (b.take x)) (b.drop x) ∨ x = 10 ∧ gi 0 0 b = .error 11), fun x => b.length - x, ?_, ?_⟩
  · (simp -dsimp only [↓z_ad_nil, ↓z_wk, ↓z_wkE_cons, ↓lkW_cons, reduceCtorEq, ↓reduceIte, ↓z_lk_env, D.int.injEq, true_and, ↓z_wkE_nil, and_true, ↓z_wkO_nil]); (try simp only [Int.toNat_natCast, Nat.mul_one, Bool.or_false, Bool.false_or, Bool.or_self, Bool.or_true])
    exact ⟨0, ⟨by simp, .inl ⟨by simp, by simp [vs]⟩⟩, by simp⟩
  · rintro i ⟨hi, hg⟩
    (simp -dsimp only [↓z_seq, ↓z_region, ↓z_ops_plain, ↓z_move, ↓evW_tmp, ↓lkW_cons, reduceCtorEq, ↓reduceIte, ↓z_put, Nat.reduceLT, ↓z_callb, ↓z_evL_cons, ↓z_evL_nil, ↓z_len, ↓y_ty28, ↓z_ln_sl, ↓z_binOp, Nat.reduceEqDiff, ↓z_bn_lss, ↓z_ops_guard, ↓z_grd, ↓z_dst_s, ↓z_dst_0, ↓z_grdD_b, ↓z_gdt, ↓z_gtt, ↓evW_const, ↓constW_int, inR_i64, Int.reduceNeg, Int.reduceLE, and_self, ↓z_pick, ↓z_pick_b, ↓z_indexAddr, ↓z_elTy_sl, ↓y_sz5, ↓z_ix_sl, ↓z_load, ↓y_ty5, ↓z_agTy_int, ↓loadW_rop, ↓z_rd_f, ↓z_nth_bytes, inR_u8, ↓z_bn_geq, ↓z_ops_nil, ↓z_seq_nrm, ↓z_cond, ↓z_cnd, Nat.mul_one, ↓z_skip, ↓z_block, ↓z_bn_add, ↓wrW_i64, ↓z_assign, ↓z_blk_nrm, ↓z_lp_nrm, ↓z_wk, ↓z_wkE_cons, D.int.injEq, true_and, ↓z_wkE_nil, and_true, ↓z_wkO_nil, ↓z_exit, ↓z_seq_ext, ↓z_lp_ext, ↓z_blk_ext, ↓z_bn_eql, ↓z_ret, ↓z_seq_rt, ↓z_end_rt, resLW, res1W, ↓z_coeL_cons, ↓z_coeL_nil, ↓z_pack2, ↓z_coe_int, ↓z_bn_gtr, ↓z_gdf, ↓z_gnf, ↓z_gft, ↓z_grdD_u, ↓z_gnt, ↓z_gff, ↓constW_bool, Bool.not_false, inR_u64, ↓z_loop, z_ite, ↓z_gtf, Bool.not_true]); (try simp only [Int.toNat_natCast])
    have step : ∀ h : i < b.length, i < 10 → gi 0 0 b = gi i (vs (b.take i)) (b[i] :: b.drop (i + 1)) := fun h h2 => by
      rcases hg with hg | hg
      · rw [hg.2, List.drop_eq_getElem_cons h]
      · omega
    refine ⟨fun hlt => ?_, fun hge => ?_⟩
    · have hlt : i < b.length := by omega
      have hst := step hlt
      have hc := b[i].toNat_lt
      refine ⟨fun h10 => ⟨by omega, by omega, hlt, ?_, ?_⟩, ?_⟩
      · intro h128
        refine ⟨by omega, i + 1, ⟨by omega, ?_⟩, by omega, by omega⟩
        have hst := hst (by omega)
        by_cases h9 : i = 9
        · refine .inr ⟨by omega, ?_⟩
          rw [hst, gi, if_pos (.inl ⟨h9, by omega⟩)]
        · refine .inl ⟨by omega, ?_⟩
          rw [hst, gi, if_neg (by omega), if_neg (by omega), vs_take hlt]
      · intro h128
        have hst := hst (by omega)
        rw [gi] at hst
        by_cases hbad : i = 9 ∧ 1 < b[i].toNat ∨ 0 < i ∧ b[i].toNat = 0
        · rw [if_pos hbad] at hst
          rw [hst]
          repeat' first | apply And.intro | intro _ | refine Exists.intro hlt ?_
          all_goals first | (exfalso; omega) | omega | rfl
        · rw [if_neg hbad, if_pos (by omega)] at hst
          have hm : b[i].toNat % 128 = b[i].toNat := Nat.mod_eq_of_lt (by omega)
          have hz : vs (b.take i) + b[i].toNat * 128 ^ i = vs (b.take (i + 1)) := by rw [vs_take hlt, hm]
          have hb : vs (b.take (i + 1)) < 18446744073709551616 := by
            have h1 := vs_lt (b.take i)
            rw [List.length_take, Nat.min_eq_left (by omega)] at h1
            rw [← hz]
            have h2 : (128 : Nat) ^ i ≤ 128 ^ 9 := Nat.pow_le_pow_right (by decide) (by omega)
            by_cases h9 : i = 9
            · subst h9; omega
            · have h3 : (128 : Nat) ^ (i + 1) ≤ 128 ^ 9 := Nat.pow_le_pow_right (by decide) (by omega)
              have h4 : b[i].toNat * 128 ^ i ≤ 127 * 128 ^ i := Nat.mul_le_mul_right _ (by omega)
              rw [Nat.pow_succ] at h3
              omega
          rw [hz] at hst
          rw [hst]
          repeat' first | apply And.intro | intro _ | refine Exists.intro hlt ?_
          all_goals first | (exfalso; omega) | omega | skip
          all_goals
            refine hold_intro ⟨[], Nat, fun j => ⟨79, 0, [(0, .sl 1 b.length (b.map bD)), (5, .int .i64 i), (7, .int .i64 ((j : Int) - 1)), (6, .int .u64 (vs ((b.take (i + 1)).drop j)))], []⟩, fun j => j ≤ i + 1, fun j => j, ?_, ?_⟩
          all_goals first
            | ((simp -dsimp only [↓z_ad_nil, ↓z_wk, ↓z_wkE_cons, ↓lkW_cons, reduceCtorEq, ↓reduceIte, Nat.reduceEqDiff, D.int.injEq, true_and, ↓z_wkE_nil, and_true, ↓z_wkO_nil]); (try simp only [Int.toNat_natCast, Nat.mul_one, Bool.or_false, Bool.false_or, Bool.or_self, Bool.or_true])
               refine ⟨i + 1, by omega, by omega, ?_⟩
               rw [List.drop_of_length_le (by rw [List.length_take]; omega)]; rfl)
            | skip
          all_goals
            intro j hj
            (simp -dsimp only [↓z_seq, ↓z_region, ↓z_ops_plain, ↓z_move, ↓evW_tmp, ↓lkW_cons, reduceCtorEq, ↓reduceIte, Nat.reduceEqDiff, ↓z_put, Nat.reduceLT, ↓z_binOp, ↓evW_const, ↓constW_int, inR_i64, Int.reduceNeg, Int.reduceLE, and_self, ↓z_bn_geq, ↓z_ops_nil, ↓z_seq_nrm, ↓z_cond, ↓z_cnd, ↓z_gdt, ↓z_skip, ↓z_block, inR_u64, ↓z_bn_mul, ↓wrW_u64, ↓z_indexAddr, ↓y_ty28, ↓z_elTy_sl, ↓y_sz5, ↓z_ix_sl, ↓z_load, ↓y_ty5, ↓z_agTy_int, ↓loadW_rop, ↓z_rd_f, ↓z_nth_bytes, inR_u8, ↓z_bn_rem, ↓z_rem_u8, ne_eq, Int.reduceEq, not_false_eq_true, ↓z_convert, ↓y_ty58, ↓z_cvt_int, ↓z_cv_int, ↓z_cvi_u8_u64, ↓z_bn_add, ↓z_assign, ↓z_blk_nrm, ↓z_bn_sub, ↓wrW_i64, ↓z_lp_nrm, ↓z_wk, ↓z_wkE_cons, D.int.injEq, true_and, Nat.mul_one, ↓z_wkE_nil, and_true, ↓z_wkO_nil, ↓z_exit, ↓z_seq_ext, ↓z_lp_ext, ↓z_blk_ext, ↓z_rem_u64, ↓z_bn_eql, ↓z_bn_quo, ↓z_quo_u64, ↓y_ty3, ↓z_cvi_u64_i64, ↓z_ret, ↓z_seq_rt, ↓z_end_rt, resLW, res1W, ↓z_coeL_cons, ↓z_coeL_nil, ↓z_pack2, ↓z_coe_int, z_ite]); (try simp only [Int.toNat_natCast, Nat.mul_one, Bool.or_false, Bool.false_or, Bool.or_self, Bool.or_true])
            have hle : vs ((b.take (i + 1)).drop j) ≤ vs (b.take (i + 1)) := vs_drop _ _
            refine ⟨fun h0 => ?_, fun h0 => ?_⟩
            · obtain ⟨m, rfl⟩ : ∃ m, j = m + 1 := ⟨j - 1, by omega⟩
              have e1 : ((m + 1 : Nat) : Int) - 1 = (m : Int) := by omega
              have hm1 : m < (b.take (i + 1)).length := by rw [List.length_take]; omega
              have hv := vs_at hm1
              have hle2 := vs_drop (b.take (i + 1)) m
              have e2 : (b.take (i + 1))[m] = b[m] := by simp
              rw [e2] at hv
              simp only [e1, Int.toNat_natCast]
              refine ⟨by omega, by omega, by omega, by omega, m, by omega, by omega, ?_, ?_⟩
              · rfl
              · simp only [wrap64]; omega
            · have : j = 0 := by omega
              subst this
              have e5 : IntKind.i64.wrap ((vs (b.take (i + 1)) : Int) / 2) = ((vs (b.take (i + 1)) / 2 : Nat) : Int) := by rw [IntKind.wrap_i64]; omega
              rw [List.drop_zero, e5]
              refine ⟨fun h => ⟨by omega, by omega, ?_⟩, fun h => ⟨by omega, ?_⟩⟩
              · rw [giD, t3, Lib.unzigzag, if_neg (by omega)]
                simp only [D.tup.injEq, List.cons.injEq, D.int.injEq, true_and, and_true]; omega
              · rw [giD, t3, Lib.unzigzag, if_pos (by omega)]
                simp only [D.tup.injEq, List.cons.injEq, D.int.injEq, true_and, and_true]; omega
      · intro h10
        have hg : i = 10 ∧ gi 0 0 b = .error 11 := hg.resolve_left fun h => absurd h.1 (by omega)
        rw [hg.2]
        exact ⟨fun _ => rfl, fun h => absurd (by omega) h⟩
    · by_cases h10 : i = 10
      · have hg : i = 10 ∧ gi 0 0 b = .error 11 := hg.resolve_left fun h => absurd h.1 (by omega)
        rw [hg.2]
        exact ⟨fun _ => rfl, fun h => absurd (by omega) h⟩
      · have hg : i ≤ 9 ∧ gi 0 0 b = gi i (vs (b.take i)) (b.drop i) := hg.resolve_right fun h => h10 h.1
        have e : gi 0 0 b = .error 10 := by rw [hg.2, List.drop_of_length_le (by omega), gi]
        rw [e]
        exact ⟨fun h => absurd h (by omega), fun _ => ⟨fun _ => rfl, fun h => absurd (by omega) h⟩⟩
#print axioms fn_refGetInt
end Go.Abs

