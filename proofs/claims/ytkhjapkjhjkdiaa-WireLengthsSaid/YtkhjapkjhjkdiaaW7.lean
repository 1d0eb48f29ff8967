/-
  WIRE, seventh walks: lists of integers and of byte strings, decoded.
-/
import Derived.Test.YtkhjapkjhjkdiaaW6
namespace Go.Abs
open Go.Proofs

/-- So many elements, one after the other. -/
def decR {α : Type} (dec : List UInt8 → Except Int (α × Nat)) (b : List UInt8) : Nat → Nat → List α → Except Int (List α × Nat)
  | 0, at_, acc => .ok (acc, at_)
  | n + 1, at_, acc => match dec (b.drop at_) with | .error e => .error e | .ok (x, u) => decR dec b n (at_ + u) (acc ++ [x])
def decL {α : Type} (dec : List UInt8 → Except Int (α × Nat)) (least : Nat) (b : List UInt8) : Except Int (List α × Nat) :=
  match decN b least with
  | .error e => .error e
  | .ok (n, u) => decR dec b n u []
/-- What a decoding keeps to. -/
structure Dec {α : Type} (dec : List UInt8 → Except Int (α × Nat)) : Prop where
  ok : ∀ {b x u}, dec b = .ok (x, u) → u ≤ b.length
  err : ∀ {b e}, dec b = .error e → e = 10 ∨ e = 11
theorem Dec_int : Dec decI := ⟨fun h => (decI_ok h).2.1, decI_err⟩
theorem Dec_str : Dec decB := by
  constructor
  · intro b x u h
    unfold decB at h
    split at h
    · cases h
    · rename_i n v e; cases h; have := decN_ok e; rw [Nat.div_one] at this; omega
  · intro b e h
    unfold decB at h
    split at h
    · rename_i e1 h1; cases h; exact decN_err h1
    · cases h
theorem fn_at {G : Glob} {f : FuncId} {r : List UInt8 → D} (hf : ∀ b : List UInt8, Fn G Try.prog f [.sl 1 b.length (b.map bD)] (r b)) (b : List UInt8) (a : Nat) :
    Fn G Try.prog f [.sl 1 (b.length - a) (((b.drop (a * 1)).take ((b.length - a) * 1)).map bD)] (r (b.drop a)) := by
  rw [Nat.mul_one, Nat.mul_one]
  have := hf (b.drop a)
  rw [List.length_drop] at this
  rwa [List.take_of_length_le (by rw [List.length_drop]; omega)]

set_option maxRecDepth 100000 in
set_option maxHeartbeats 8000000 in
theorem fn_getInt (G : Glob) (f : FuncId) (dec : List UInt8 → Except Int (Int × Nat)) (least : Nat) (hl : 0 < least) (hD : Dec dec) (hf : ∀ b : List UInt8, Fn G Try.prog f [.sl 1 b.length (b.map bD)] (rD (D.int .i64) (.int .i64 0) (dec b))) (b : List UInt8) (hb : b.length ≤ 100000) : Fn G Try.prog 43 [.sl 1 b.length (b.map bD), .int .i64 least, .fn f []] (rD (fun l => .sl 1 l.length (l.map (D.int .i64))) .nils (decL dec least b)) := by
  refine Fn.mk (c := _) Try.func43 rfl rfl Try.ntmps43 Try.results43 ?_
  (simp -dsimp only [bodyW, List.length_cons, List.length_nil, Nat.zero_add, Nat.reduceAdd, Nat.reduceLeDiff, wfL, ↓z_seq, ↓z_region, ↓z_ops_plain, ↓z_assign, ↓evW_const, ↓constW_nils, ↓z_put, Nat.reduceLT, ↓constW_int, inR_i64, Int.reduceNeg, Int.reduceLE, and_self, ↓z_ops_nil, ↓z_seq_nrm, ↓z_move, ↓evW_tmp, ↓lkW_cons, reduceCtorEq, ↓reduceIte, ↓z_lk_env, Nat.reduceEqDiff, ↓z_callv, ↓evW_func, ↓z_evL_cons, ↓z_evL_nil, ↓z_fun0, ↓z_coeL_cons, ↓z_coe_sl, ↓z_coe_int, ↓z_coeL_nil, true_and])
  intro _ _ _
  refine call_fn (fn_length G b least hl) fun _ => ?_
  unfold decL
  cases h : decN b least with
  | error e =>
    have he := decN_err h
    (simp -dsimp only [↓z_put, Nat.reduceLT, ↓z_ops_plain, ↓z_move, ↓evW_tmp, ↓lkW_cons, ↓reduceIte, ↓z_extract, rD_err, Nat.reduceEqDiff, ↓z_assign, ↓z_ops_nil, ↓z_seq_nrm, ↓z_seq, ↓z_region, ↓z_binOp, ↓evW_const, ↓constW_int, inR_i64, Int.reduceNeg, Int.reduceLE, and_self, ↓z_cond, ↓constW_nils, ↓z_ret, ↓z_seq_rt, ↓z_end_rt, resLW, res1W, ↓z_coeL_cons, ↓z_coeL_nil, ↓z_pack2, D.tup.injEq, List.cons.injEq, and_true, ↓z_coe_int, true_and, ↓z_coe_nils, ↓z_skip, ↓z_block, ↓z_loop, ↓z_ex, ↓nthW_cons, reduceCtorEq, Nat.reduceSub, ↓z_bn_neq, ↓z_cnd, ↓z_gdt, ne_eq, z_ite, Classical.not_not])
    refine ⟨fun _ => trivial, fun h0 => ?_⟩
    exfalso; omega
  | ok p =>
    obtain ⟨m, u⟩ := p
    have hu := decN_ok h
    have hd := Nat.div_le_self (b.length - u) least
    (simp -dsimp only [↓z_put, Nat.reduceLT, ↓z_ops_plain, ↓z_move, ↓evW_tmp, ↓lkW_cons, ↓reduceIte, ↓z_extract, rD_ok, Nat.reduceEqDiff, ↓z_assign, ↓z_ops_nil, ↓z_seq_nrm, ↓z_seq, ↓z_region, ↓z_binOp, ↓evW_const, ↓constW_int, inR_i64, Int.reduceNeg, Int.reduceLE, and_self, ↓z_cond, ↓constW_nils, ↓z_ret, ↓z_seq_rt, ↓z_end_rt, resLW, res1W, ↓z_coeL_cons, ↓z_coeL_nil, ↓z_pack2, ↓z_coe_int, ↓z_coe_nils, true_and, ↓z_skip, ↓z_block, ↓z_loop, ↓z_ex, ↓nthW_cons, reduceCtorEq, Nat.reduceSub, ↓z_bn_neq, ↓z_cnd, ↓z_gdt, ne_eq, not_true_eq_false])
    refine hold_intro ⟨[(12, 1)], Nat × Nat × List Int, fun x => ⟨51, 1, [(0, .sl 1 b.length (b.map bD)), (26, .int .i64 m), (27, .int .i64 x.1), (10, .int .i64 x.2.1), (12, .osl 0 1 x.2.2.length), (2, .fn f [])], [(0, x.2.2.map (D.int .i64))]⟩,
      fun x => x.1 ≤ m ∧ x.2.1 ≤ b.length ∧ x.2.2.length = x.1 ∧ decR dec b (m - x.1) x.2.1 x.2.2 = decR dec b m u [], fun x => m - x.1, ?_, ?_⟩
    · (simp -dsimp only [↓z_ad_cons, Nat.reduceLT, ↓lkW_cons, Nat.reduceEqDiff, ↓reduceIte, ↓z_nm_nil, ↓z_pg_cons, ↓z_mn_int, ↓z_mn_nils, ↓z_mn_bool, ↓z_mn_sl, ↓z_pg_env, ↓z_mn_fn, ↓z_pg_env0, ↓z_ad_nil, ↓z_wk, ↓z_wkE_cons, reduceCtorEq, D.int.injEq, true_and, D.osl.injEq, Nat.zero_add, Nat.reduceAdd, ↓z_wkE_nil, and_self, and_true, ↓z_wkO_cons, ↓lkoW_cons, ↓z_wkO_nil]); (try simp only [Int.toNat_natCast, Nat.mul_one, Bool.or_false, Bool.false_or, Bool.or_self, Bool.or_true])
      refine ⟨(0, u, []), ⟨by simp, hu.2.1, by simp, by simp⟩, ?_⟩
      simp
    · rintro ⟨i, a, acc⟩ ⟨h1, h2, h3, h4⟩
      simp only at h1 h2 h3 h4
      (simp -dsimp only [↓z_seq, ↓z_region, ↓z_ops_plain, ↓z_binOp, ↓evW_tmp, ↓lkW_cons, reduceCtorEq, ↓reduceIte, Nat.reduceEqDiff, ↓z_bn_lss, ↓z_put, Nat.reduceLT, ↓z_ops_nil, ↓z_seq_nrm, ↓z_cond, ↓z_cnd, ↓z_gdt, ↓z_skip, ↓z_block, ↓z_move, ↓z_slice, ↓z_evO_some, ↓z_bo_some, ↓z_evO_none, ↓z_bo_none, ↓y_ty28, ↓z_seTy_sl, ↓y_sz5, ↓z_slc_sl_ln, ↓z_sub_map, ↓z_callv, ↓z_evL_cons, ↓z_evL_nil, ↓z_fun0, ↓z_coeL_cons, ↓z_coe_sl, ↓z_coeL_nil, true_and, ↓z_exit, ↓z_seq_ext, ↓z_lp_ext, ↓z_blk_ext, ↓z_assign, ↓evW_const, ↓constW_int, inR_i64, Int.reduceNeg, Int.reduceLE, and_self, ↓z_ret, ↓z_end_rt, resLW, res1W, ↓z_pack2, ↓z_coe_int, ↓z_coe_osl, ↓lkoW_cons, ↓z_allP_int, List.length_map, Nat.mul_one, z_ite]); (try simp only [Int.toNat_natCast])
      refine ⟨fun hlt => ⟨by omega, by omega, call_fn (fn_at hf b a) fun _ => ?_⟩, fun hge => ?_⟩
      · have hm : m - i = (m - (i + 1)) + 1 := by omega
        rw [hm, decR] at h4
        cases hx : dec (b.drop a) with
        | error e =>
          have he := hD.err hx
          rw [hx] at h4
          simp only at h4
          rw [← h4]
          (simp -dsimp only [↓z_put, Nat.reduceLT, ↓z_ops_plain, ↓z_move, ↓evW_tmp, ↓lkW_cons, ↓reduceIte, ↓z_extract, rD_err, Nat.reduceEqDiff, ↓z_assign, ↓z_ops_nil, ↓z_seq_nrm, ↓z_seq, ↓z_region, ↓z_binOp, ↓evW_const, ↓constW_int, inR_i64, Int.reduceNeg, Int.reduceLE, and_self, ↓z_cond, ↓constW_nils, ↓z_ret, ↓z_seq_rt, ↓z_blk_rt, ↓z_lp_rt, ↓z_end_rt, resLW, res1W, Nat.mul_one, ↓z_coeL_cons, ↓z_coeL_nil, ↓z_pack2, D.tup.injEq, List.cons.injEq, and_true, ↓z_coe_int, true_and, ↓z_coe_nils, ↓z_skip, reduceCtorEq, ↓z_buildSlice, ↓y_ty22, ↓z_slTy, ↓y_sz3, Nat.reduceLeDiff, maxLen_lit, ↓y_zr3, List.length_cons, List.length_nil, Nat.zero_add, ↓z_repL_s, ↓z_repL_0, ↓z_cat_nil_r, ↓z_bld_cons, ↓spsW_cons, ↓drW_cons, ↓drW_nil, ↓z_bld_nil, ↓z_callb, ↓z_evL_cons, ↓z_evL_nil, ↓z_append, ↓z_nint_sl, ↓y_by3, ↓z_src_slx, ↓z_app_osl, ↓lkoW_cons, List.length_map, ↓z_room, ↓z_nm_cons, ↓z_nmC_int, ↓z_nm_nil, ↓z_pg_cons, ↓z_mn_slx, ↓z_mn_osl, ↓z_mn_sl, ↓z_mn_int, ↓z_mn_fn, ↓z_mn_bool, ↓z_pg_nil, ↓z_so_cons, ↓z_blk_nrm, ↓z_bn_add, ↓wrW_i64, ↓z_lp_nrm, ↓z_wk, ↓z_wkE_cons, D.int.injEq, D.osl.injEq, ↓z_wkE_nil, ↓z_wkO_cons, ↓z_wkO_nil, ↓z_mn_tup, ↓z_ex, ↓nthW_cons, Nat.reduceSub, ↓z_bn_neq, ↓z_cnd, ↓z_gdt, ne_eq, z_ite, Classical.not_not, ↓z_cl_int, ↓z_allP_cons, ↓z_isP_int, ↓z_allP_nil]); (try simp only [Int.toNat_natCast, Nat.mul_one, Bool.or_false, Bool.false_or, Bool.or_self, Bool.or_true])
          refine ⟨fun _ => trivial, fun h0 => ?_⟩
          exfalso; omega
        | ok p =>
          obtain ⟨x, v⟩ := p
          rw [hx] at h4
          simp only at h4
          have hv := hD.ok hx
          rw [List.length_drop] at hv
          (simp -dsimp only [↓z_put, Nat.reduceLT, ↓z_ops_plain, ↓z_move, ↓evW_tmp, ↓lkW_cons, ↓reduceIte, ↓z_extract, rD_ok, Nat.reduceEqDiff, ↓z_assign, ↓z_ops_nil, ↓z_seq_nrm, ↓z_seq, ↓z_region, ↓z_binOp, ↓evW_const, ↓constW_int, inR_i64, Int.reduceNeg, Int.reduceLE, and_self, ↓z_cond, ↓constW_nils, ↓z_ret, ↓z_seq_rt, ↓z_blk_rt, ↓z_lp_rt, ↓z_end_rt, resLW, res1W, Nat.mul_one, ↓z_coeL_cons, ↓z_coeL_nil, ↓z_pack2, ↓z_coe_int, ↓z_coe_nils, true_and, ↓z_skip, reduceCtorEq, ↓z_buildSlice, ↓y_ty22, ↓z_slTy, ↓y_sz3, Nat.reduceLeDiff, maxLen_lit, ↓y_zr3, List.length_cons, List.length_nil, Nat.zero_add, ↓z_repL_s, ↓z_repL_0, ↓z_cat_nil_r, ↓z_bld_cons, ↓spsW_cons, ↓drW_cons, ↓drW_nil, ↓z_bld_nil, ↓z_callb, ↓z_evL_cons, ↓z_evL_nil, ↓z_append, ↓z_nint_sl, ↓y_by3, ↓z_src_slx, ↓z_app_osl, ↓lkoW_cons, List.length_map, ↓z_room, ↓z_nm_cons, ↓z_nmC_int, ↓z_nm_nil, ↓z_pg_cons, ↓z_mn_slx, ↓z_mn_osl, ↓z_mn_sl, ↓z_mn_int, ↓z_mn_fn, ↓z_mn_bool, ↓z_pg_nil, ↓z_so_cons, ↓z_blk_nrm, ↓z_bn_add, ↓wrW_i64, ↓z_lp_nrm, ↓z_wk, ↓z_wkE_cons, D.int.injEq, D.osl.injEq, ↓z_wkE_nil, and_true, ↓z_wkO_cons, ↓z_wkO_nil, ↓z_mn_tup, ↓z_ex, ↓nthW_cons, Nat.reduceSub, ↓z_bn_neq, ↓z_cnd, ↓z_gdt, ne_eq, not_true_eq_false, ↓z_cl_int, ↓z_allP_cons, ↓z_isP_int, ↓z_allP_nil]); (try simp only [Int.toNat_natCast, Nat.mul_one, Bool.or_false, Bool.false_or, Bool.or_self, Bool.or_true])
          skip
          exact ⟨by omega, by omega, by omega, by omega, (i + 1, a + v, acc ++ [x]), ⟨by simp only; omega, by simp only; omega, by simp; omega, h4⟩, by simp only; omega, ⟨by simp, by simp, by simp⟩, by simp⟩
      · have : i = m := by omega
        subst this
        rw [Nat.sub_self, decR] at h4
        rw [← h4]
        simp [rD]

set_option maxRecDepth 100000 in
set_option maxHeartbeats 8000000 in
theorem fn_getStr (G : Glob) (f : FuncId) (dec : List UInt8 → Except Int (List UInt8 × Nat)) (least : Nat) (hl : 0 < least) (hD : Dec dec) (hf : ∀ b : List UInt8, Fn G Try.prog f [.sl 1 b.length (b.map bD)] (rD D.str (.str []) (dec b))) (b : List UInt8) (hb : b.length ≤ 100000) : Fn G Try.prog 45 [.sl 1 b.length (b.map bD), .int .i64 least, .fn f []] (rD (fun l => .sl 1 l.length (l.map (D.str))) .nils (decL dec least b)) := by
  refine Fn.mk (c := _) Try.func45 rfl rfl Try.ntmps45 Try.results45 ?_
  (simp -dsimp only [bodyW, List.length_cons, List.length_nil, Nat.zero_add, Nat.reduceAdd, Nat.reduceLeDiff, wfL, ↓z_seq, ↓z_region, ↓z_ops_plain, ↓z_assign, ↓evW_const, ↓constW_nils, ↓z_put, Nat.reduceLT, ↓constW_int, inR_i64, Int.reduceNeg, Int.reduceLE, and_self, ↓z_ops_nil, ↓z_seq_nrm, ↓z_move, ↓evW_tmp, ↓lkW_cons, reduceCtorEq, ↓reduceIte, ↓z_lk_env, Nat.reduceEqDiff, ↓z_callv, ↓evW_func, ↓z_evL_cons, ↓z_evL_nil, ↓z_fun0, ↓z_coeL_cons, ↓z_coe_sl, ↓z_coe_int, ↓z_coeL_nil, true_and])
  intro _ _ _
  refine call_fn (fn_length G b least hl) fun _ => ?_
  unfold decL
  cases h : decN b least with
  | error e =>
    have he := decN_err h
    (simp -dsimp only [↓z_put, Nat.reduceLT, ↓z_ops_plain, ↓z_move, ↓evW_tmp, ↓lkW_cons, ↓reduceIte, ↓z_extract, rD_err, Nat.reduceEqDiff, ↓z_assign, ↓z_ops_nil, ↓z_seq_nrm, ↓z_seq, ↓z_region, ↓z_binOp, ↓evW_const, ↓constW_int, inR_i64, Int.reduceNeg, Int.reduceLE, and_self, ↓z_cond, ↓constW_nils, ↓z_ret, ↓z_seq_rt, ↓z_end_rt, resLW, res1W, ↓z_coeL_cons, ↓z_coeL_nil, ↓z_pack2, D.tup.injEq, List.cons.injEq, and_true, ↓z_coe_int, true_and, ↓z_coe_nils, ↓z_skip, ↓z_block, ↓z_loop, ↓z_ex, ↓nthW_cons, reduceCtorEq, Nat.reduceSub, ↓z_bn_neq, ↓z_cnd, ↓z_gdt, ne_eq, z_ite, Classical.not_not])
    refine ⟨fun _ => trivial, fun h0 => ?_⟩
    exfalso; omega
  | ok p =>
    obtain ⟨m, u⟩ := p
    have hu := decN_ok h
    have hd := Nat.div_le_self (b.length - u) least
    (simp -dsimp only [↓z_put, Nat.reduceLT, ↓z_ops_plain, ↓z_move, ↓evW_tmp, ↓lkW_cons, ↓reduceIte, ↓z_extract, rD_ok, Nat.reduceEqDiff, ↓z_assign, ↓z_ops_nil, ↓z_seq_nrm, ↓z_seq, ↓z_region, ↓z_binOp, ↓evW_const, ↓constW_int, inR_i64, Int.reduceNeg, Int.reduceLE, and_self, ↓z_cond, ↓constW_nils, ↓z_ret, ↓z_seq_rt, ↓z_end_rt, resLW, res1W, ↓z_coeL_cons, ↓z_coeL_nil, ↓z_pack2, ↓z_coe_int, ↓z_coe_nils, true_and, ↓z_skip, ↓z_block, ↓z_loop, ↓z_ex, ↓nthW_cons, reduceCtorEq, Nat.reduceSub, ↓z_bn_neq, ↓z_cnd, ↓z_gdt, ne_eq, not_true_eq_false])
    refine hold_intro ⟨[(12, 1)], Nat × Nat × List (List UInt8), fun x => ⟨51, 1, [(0, .sl 1 b.length (b.map bD)), (26, .int .i64 m), (27, .int .i64 x.1), (10, .int .i64 x.2.1), (12, .osl 0 1 x.2.2.length), (2, .fn f [])], [(0, x.2.2.map (D.str))]⟩,
      fun x => x.1 ≤ m ∧ x.2.1 ≤ b.length ∧ x.2.2.length = x.1 ∧ decR dec b (m - x.1) x.2.1 x.2.2 = decR dec b m u [], fun x => m - x.1, ?_, ?_⟩
    · (simp -dsimp only [↓z_ad_cons, Nat.reduceLT, ↓lkW_cons, Nat.reduceEqDiff, ↓reduceIte, ↓z_nm_nil, ↓z_pg_cons, ↓z_mn_int, ↓z_mn_nils, ↓z_mn_bool, ↓z_mn_sl, ↓z_pg_env, ↓z_mn_fn, ↓z_pg_env0, ↓z_ad_nil, ↓z_wk, ↓z_wkE_cons, reduceCtorEq, D.int.injEq, true_and, D.osl.injEq, Nat.zero_add, Nat.reduceAdd, ↓z_wkE_nil, and_self, and_true, ↓z_wkO_cons, ↓lkoW_cons, ↓z_wkO_nil]); (try simp only [Int.toNat_natCast, Nat.mul_one, Bool.or_false, Bool.false_or, Bool.or_self, Bool.or_true])
      refine ⟨(0, u, []), ⟨by simp, hu.2.1, by simp, by simp⟩, ?_⟩
      simp
    · rintro ⟨i, a, acc⟩ ⟨h1, h2, h3, h4⟩
      simp only at h1 h2 h3 h4
      (simp -dsimp only [↓z_seq, ↓z_region, ↓z_ops_plain, ↓z_binOp, ↓evW_tmp, ↓lkW_cons, reduceCtorEq, ↓reduceIte, Nat.reduceEqDiff, ↓z_bn_lss, ↓z_put, Nat.reduceLT, ↓z_ops_nil, ↓z_seq_nrm, ↓z_cond, ↓z_cnd, ↓z_gdt, ↓z_skip, ↓z_block, ↓z_move, ↓z_slice, ↓z_evO_some, ↓z_bo_some, ↓z_evO_none, ↓z_bo_none, ↓y_ty28, ↓z_seTy_sl, ↓y_sz5, ↓z_slc_sl_ln, ↓z_sub_map, ↓z_callv, ↓z_evL_cons, ↓z_evL_nil, ↓z_fun0, ↓z_coeL_cons, ↓z_coe_sl, ↓z_coeL_nil, true_and, ↓z_exit, ↓z_seq_ext, ↓z_lp_ext, ↓z_blk_ext, ↓z_assign, ↓evW_const, ↓constW_int, inR_i64, Int.reduceNeg, Int.reduceLE, and_self, ↓z_ret, ↓z_end_rt, resLW, res1W, ↓z_pack2, ↓z_coe_int, ↓z_coe_osl, ↓lkoW_cons, ↓z_allP_str, List.length_map, Nat.mul_one, z_ite]); (try simp only [Int.toNat_natCast])
      refine ⟨fun hlt => ⟨by omega, by omega, call_fn (fn_at hf b a) fun _ => ?_⟩, fun hge => ?_⟩
      · have hm : m - i = (m - (i + 1)) + 1 := by omega
        rw [hm, decR] at h4
        cases hx : dec (b.drop a) with
        | error e =>
          have he := hD.err hx
          rw [hx] at h4
          simp only at h4
          rw [← h4]
          (simp -dsimp only [↓z_put, Nat.reduceLT, ↓z_ops_plain, ↓z_move, ↓evW_tmp, ↓lkW_cons, ↓reduceIte, ↓z_extract, rD_err, Nat.reduceEqDiff, ↓z_assign, ↓z_ops_nil, ↓z_seq_nrm, ↓z_seq, ↓z_region, ↓z_binOp, ↓evW_const, ↓constW_int, inR_i64, Int.reduceNeg, Int.reduceLE, and_self, ↓z_cond, ↓constW_nils, ↓z_ret, ↓z_seq_rt, ↓z_blk_rt, ↓z_lp_rt, ↓z_end_rt, resLW, res1W, Nat.mul_one, ↓z_coeL_cons, ↓z_coeL_nil, ↓z_pack2, D.tup.injEq, List.cons.injEq, and_true, ↓z_coe_int, true_and, ↓z_coe_nils, ↓z_skip, reduceCtorEq, ↓z_buildSlice, ↓y_ty23, ↓z_slTy, ↓y_sz9, Nat.reduceLeDiff, maxLen_lit, ↓y_zr9, List.length_cons, List.length_nil, Nat.zero_add, ↓z_repL_s, ↓z_repL_0, ↓z_cat_nil_r, ↓z_bld_cons, ↓spsW_cons, ↓drW_cons, ↓drW_nil, ↓z_bld_nil, ↓z_callb, ↓z_evL_cons, ↓z_evL_nil, ↓z_append, ↓z_nint_sl, ↓y_by9, ↓z_src_slx, ↓z_app_osl, ↓lkoW_cons, List.length_map, ↓z_room, ↓z_nm_cons, ↓z_nmC_str, ↓z_nm_nil, ↓z_pg_cons, ↓z_mn_slx, ↓z_mn_osl, ↓z_mn_sl, ↓z_mn_int, ↓z_mn_fn, ↓z_mn_bool, ↓z_pg_nil, ↓z_so_cons, ↓z_blk_nrm, ↓z_bn_add, ↓wrW_i64, ↓z_lp_nrm, ↓z_wk, ↓z_wkE_cons, D.int.injEq, D.osl.injEq, ↓z_wkE_nil, ↓z_wkO_cons, ↓z_wkO_nil, ↓z_mn_tup, ↓z_ex, ↓nthW_cons, Nat.reduceSub, ↓z_bn_neq, ↓z_cnd, ↓z_gdt, ne_eq, z_ite, Classical.not_not, ↓z_cl_str, ↓z_allP_cons, ↓z_isP_str, ↓z_allP_nil, ↓z_mn_str]); (try simp only [Int.toNat_natCast, Nat.mul_one, Bool.or_false, Bool.false_or, Bool.or_self, Bool.or_true])
          refine ⟨fun _ => trivial, fun h0 => ?_⟩
          exfalso; omega
        | ok p =>
          obtain ⟨x, v⟩ := p
          rw [hx] at h4
          simp only at h4
          have hv := hD.ok hx
          rw [List.length_drop] at hv
          (simp -dsimp only [↓z_put, Nat.reduceLT, ↓z_ops_plain, ↓z_move, ↓evW_tmp, ↓lkW_cons, ↓reduceIte, ↓z_extract, rD_ok, Nat.reduceEqDiff, ↓z_assign, ↓z_ops_nil, ↓z_seq_nrm, ↓z_seq, ↓z_region, ↓z_binOp, ↓evW_const, ↓constW_int, inR_i64, Int.reduceNeg, Int.reduceLE, and_self, ↓z_cond, ↓constW_nils, ↓z_ret, ↓z_seq_rt, ↓z_blk_rt, ↓z_lp_rt, ↓z_end_rt, resLW, res1W, Nat.mul_one, ↓z_coeL_cons, ↓z_coeL_nil, ↓z_pack2, ↓z_coe_int, ↓z_coe_nils, true_and, ↓z_skip, reduceCtorEq, ↓z_buildSlice, ↓y_ty23, ↓z_slTy, ↓y_sz9, Nat.reduceLeDiff, maxLen_lit, ↓y_zr9, List.length_cons, List.length_nil, Nat.zero_add, ↓z_repL_s, ↓z_repL_0, ↓z_cat_nil_r, ↓z_bld_cons, ↓spsW_cons, ↓drW_cons, ↓drW_nil, ↓z_bld_nil, ↓z_callb, ↓z_evL_cons, ↓z_evL_nil, ↓z_append, ↓z_nint_sl, ↓y_by9, ↓z_src_slx, ↓z_app_osl, ↓lkoW_cons, List.length_map, ↓z_room, ↓z_nm_cons, ↓z_nmC_str, ↓z_nm_nil, ↓z_pg_cons, ↓z_mn_slx, ↓z_mn_osl, ↓z_mn_sl, ↓z_mn_int, ↓z_mn_fn, ↓z_mn_bool, ↓z_pg_nil, ↓z_so_cons, ↓z_blk_nrm, ↓z_bn_add, ↓wrW_i64, ↓z_lp_nrm, ↓z_wk, ↓z_wkE_cons, D.int.injEq, D.osl.injEq, ↓z_wkE_nil, and_true, ↓z_wkO_cons, ↓z_wkO_nil, ↓z_mn_tup, ↓z_ex, ↓nthW_cons, Nat.reduceSub, ↓z_bn_neq, ↓z_cnd, ↓z_gdt, ne_eq, not_true_eq_false, ↓z_cl_str, ↓z_allP_cons, ↓z_isP_str, ↓z_allP_nil, ↓z_mn_str]); (try simp only [Int.toNat_natCast, Nat.mul_one, Bool.or_false, Bool.false_or, Bool.or_self, Bool.or_true])
          skip
          exact ⟨by omega, by omega, by omega, by omega, (i + 1, a + v, acc ++ [x]), ⟨by simp only; omega, by simp only; omega, by simp; omega, h4⟩, by simp only; omega, ⟨by simp, by simp, by simp⟩, by simp⟩
      · have : i = m := by omega
        subst this
        rw [Nat.sub_self, decR] at h4
        rw [← h4]
        simp [rD]

set_option maxRecDepth 100000 in
set_option maxHeartbeats 8000000 in
theorem fn_refGetInts (G : Glob)  (b : List UInt8) (hb : b.length ≤ 100000) : Fn G Try.prog 29 [.sl 1 b.length (b.map bD)] (rD (fun l => .sl 1 l.length (l.map (D.int .i64))) .nils (decL decI 1 b)) := by
  refine Fn.mk (c := _) Try.func29 rfl rfl Try.ntmps29 Try.results29 ?_
  (simp -dsimp only [bodyW, List.length_cons, List.length_nil, Nat.zero_add, Nat.reduceLeDiff, wfL, ↓z_seq, ↓z_region, ↓z_ops_plain, ↓z_assign, ↓evW_const, ↓constW_nils, ↓z_put, Nat.reduceLT, ↓constW_int, inR_i64, Int.reduceNeg, Int.reduceLE, and_self, ↓z_ops_nil, ↓z_seq_nrm, ↓z_move, ↓evW_tmp, ↓lkW_cons, reduceCtorEq, ↓reduceIte, ↓z_lk_env, ↓z_callv, ↓evW_func, ↓z_evL_cons, ↓z_evL_nil, ↓z_fun0, ↓z_coeL_cons, ↓z_coe_sl, ↓z_coe_int, ↓z_coeL_nil, true_and])
  intro _
  refine call_fn (fn_refLength G b 1 (by decide)) fun _ => ?_
  unfold decL
  cases h : decN b 1 with
  | error e =>
    have he := decN_err h
    (simp -dsimp only [↓z_put, Nat.reduceLT, ↓z_ops_plain, ↓z_move, ↓evW_tmp, ↓lkW_cons, ↓reduceIte, ↓z_extract, rD_err, Nat.reduceEqDiff, ↓z_assign, ↓z_ops_nil, ↓z_seq_nrm, ↓z_seq, ↓z_region, ↓z_binOp, ↓evW_const, ↓constW_int, inR_i64, Int.reduceNeg, Int.reduceLE, and_self, ↓z_cond, ↓constW_nils, ↓z_ret, ↓z_seq_rt, ↓z_end_rt, resLW, res1W, ↓z_coeL_cons, ↓z_coeL_nil, ↓z_pack2, D.tup.injEq, List.cons.injEq, and_true, ↓z_coe_int, true_and, ↓z_coe_nils, ↓z_skip, ↓z_block, ↓z_loop, ↓z_ex, ↓nthW_cons, reduceCtorEq, Nat.reduceSub, ↓z_bn_neq, ↓z_cnd, ↓z_gdt, ne_eq, z_ite, Classical.not_not])
    refine ⟨fun _ => trivial, fun h0 => ?_⟩
    exfalso; omega
  | ok p =>
    obtain ⟨m, u⟩ := p
    have hu := decN_ok h
    have hd := Nat.div_le_self (b.length - u) 1
    (simp -dsimp only [↓z_put, Nat.reduceLT, ↓z_ops_plain, ↓z_move, ↓evW_tmp, ↓lkW_cons, ↓reduceIte, ↓z_extract, rD_ok, Nat.reduceEqDiff, ↓z_assign, ↓z_ops_nil, ↓z_seq_nrm, ↓z_seq, ↓z_region, ↓z_binOp, ↓evW_const, ↓constW_int, inR_i64, Int.reduceNeg, Int.reduceLE, and_self, ↓z_cond, ↓constW_nils, ↓z_ret, ↓z_seq_rt, ↓z_end_rt, resLW, res1W, ↓z_coeL_cons, ↓z_coeL_nil, ↓z_pack2, ↓z_coe_int, ↓z_coe_nils, true_and, ↓z_skip, ↓z_block, ↓z_loop, ↓z_ex, ↓nthW_cons, reduceCtorEq, Nat.reduceSub, ↓z_bn_neq, ↓z_cnd, ↓z_gdt, ne_eq, not_true_eq_false])
    refine hold_intro ⟨[(8, 1)], Nat × Nat × List Int, fun x => ⟨47, 1, [(0, .sl 1 b.length (b.map bD)), (5, .int .i64 m), (9, .int .i64 x.1), (6, .int .i64 x.2.1), (8, .osl 0 1 x.2.2.length)], [(0, x.2.2.map (D.int .i64))]⟩,
      fun x => x.1 ≤ m ∧ x.2.1 ≤ b.length ∧ x.2.2.length = x.1 ∧ decR decI b (m - x.1) x.2.1 x.2.2 = decR decI b m u [], fun x => m - x.1, ?_, ?_⟩
    · (simp -dsimp only [↓z_ad_cons, Nat.reduceLT, ↓lkW_cons, Nat.reduceEqDiff, ↓reduceIte, ↓z_nm_nil, ↓z_pg_cons, ↓z_mn_int, ↓z_mn_nils, ↓z_mn_bool, ↓z_mn_sl, ↓z_pg_env, ↓z_pg_env0, ↓z_ad_nil, ↓z_wk, ↓z_wkE_cons, reduceCtorEq, D.int.injEq, true_and, D.osl.injEq, ↓z_wkE_nil, and_true, ↓z_wkO_cons, ↓lkoW_cons, ↓z_wkO_nil]); (try simp only [Int.toNat_natCast, Nat.mul_one, Bool.or_false, Bool.false_or, Bool.or_self, Bool.or_true])
      refine ⟨(0, u, []), ⟨by simp, hu.2.1, by simp, by simp⟩, ?_⟩
      simp
    · rintro ⟨i, a, acc⟩ ⟨h1, h2, h3, h4⟩
      simp only at h1 h2 h3 h4
      (simp -dsimp only [↓z_seq, ↓z_region, ↓z_ops_plain, ↓z_move, ↓evW_tmp, ↓lkW_cons, reduceCtorEq, ↓reduceIte, Nat.reduceEqDiff, ↓z_put, Nat.reduceLT, ↓z_binOp, ↓z_bn_lss, ↓z_ops_nil, ↓z_seq_nrm, ↓z_cond, ↓z_cnd, ↓z_gdt, ↓z_skip, ↓z_block, ↓z_slice, ↓z_evO_some, ↓z_bo_some, ↓z_evO_none, ↓z_bo_none, ↓y_ty28, ↓z_seTy_sl, ↓y_sz5, ↓z_slc_sl_ln, ↓z_sub_map, ↓z_callv, ↓evW_func, ↓z_evL_cons, ↓z_evL_nil, ↓z_fun0, ↓z_coeL_cons, ↓z_coe_sl, ↓z_coeL_nil, true_and, ↓z_exit, ↓z_seq_ext, ↓z_lp_ext, ↓z_blk_ext, ↓z_assign, ↓evW_const, ↓constW_int, inR_i64, Int.reduceNeg, Int.reduceLE, and_self, ↓z_ret, ↓z_end_rt, resLW, res1W, ↓z_pack2, ↓z_coe_int, ↓z_coe_osl, ↓lkoW_cons, ↓z_allP_int, List.length_map, Nat.mul_one, z_ite]); (try simp only [Int.toNat_natCast])
      refine ⟨fun hlt => ⟨by omega, by omega, call_fn (fn_at (fn_refGetInt' G) b a) fun _ => ?_⟩, fun hge => ?_⟩
      · have hm : m - i = (m - (i + 1)) + 1 := by omega
        rw [hm, decR] at h4
        cases hx : decI (b.drop a) with
        | error e =>
          have he := Dec_int.err hx
          rw [hx] at h4
          simp only at h4
          rw [← h4]
          (simp -dsimp only [↓z_put, Nat.reduceLT, ↓z_ops_plain, ↓z_move, ↓evW_tmp, ↓lkW_cons, ↓reduceIte, ↓z_extract, rD_err, Nat.reduceEqDiff, ↓z_assign, ↓z_ops_nil, ↓z_seq_nrm, ↓z_seq, ↓z_region, ↓z_binOp, ↓evW_const, ↓constW_int, inR_i64, Int.reduceNeg, Int.reduceLE, and_self, ↓z_cond, ↓constW_nils, ↓z_ret, ↓z_seq_rt, ↓z_blk_rt, ↓z_lp_rt, ↓z_end_rt, resLW, res1W, Nat.mul_one, ↓z_coeL_cons, ↓z_coeL_nil, ↓z_pack2, D.tup.injEq, List.cons.injEq, and_true, ↓z_coe_int, true_and, ↓z_coe_nils, ↓z_skip, reduceCtorEq, ↓z_buildSlice, ↓y_ty22, ↓z_slTy, ↓y_sz3, Nat.reduceLeDiff, maxLen_lit, ↓y_zr3, List.length_cons, List.length_nil, Nat.zero_add, ↓z_repL_s, ↓z_repL_0, ↓z_cat_nil_r, ↓z_bld_cons, ↓spsW_cons, ↓drW_cons, ↓drW_nil, ↓z_bld_nil, ↓z_callb, ↓z_evL_cons, ↓z_evL_nil, ↓z_append, ↓z_nint_sl, ↓y_by3, ↓z_src_slx, ↓z_app_osl, ↓lkoW_cons, List.length_map, ↓z_room, ↓z_nm_cons, ↓z_nmC_int, ↓z_nm_nil, ↓z_pg_cons, ↓z_mn_slx, ↓z_mn_osl, ↓z_mn_sl, ↓z_mn_int, ↓z_mn_bool, ↓z_pg_nil, ↓z_so_cons, ↓z_blk_nrm, ↓z_bn_add, ↓wrW_i64, ↓z_lp_nrm, ↓z_wk, ↓z_wkE_cons, D.int.injEq, D.osl.injEq, ↓z_wkE_nil, ↓z_wkO_cons, ↓z_wkO_nil, ↓z_mn_tup, ↓z_ex, ↓nthW_cons, Nat.reduceSub, ↓z_bn_neq, ↓z_cnd, ↓z_gdt, ne_eq, z_ite, Classical.not_not, ↓z_cl_int, ↓z_allP_cons, ↓z_isP_int, ↓z_allP_nil]); (try simp only [Int.toNat_natCast, Nat.mul_one, Bool.or_false, Bool.false_or, Bool.or_self, Bool.or_true])
          refine ⟨fun _ => trivial, fun h0 => ?_⟩
          exfalso; omega
        | ok p =>
          obtain ⟨x, v⟩ := p
          rw [hx] at h4
          simp only at h4
          have hv := Dec_int.ok hx
          rw [List.length_drop] at hv
          (simp -dsimp only [↓z_put, Nat.reduceLT, ↓z_ops_plain, ↓z_move, ↓evW_tmp, ↓lkW_cons, ↓reduceIte, ↓z_extract, rD_ok, Nat.reduceEqDiff, ↓z_assign, ↓z_ops_nil, ↓z_seq_nrm, ↓z_seq, ↓z_region, ↓z_binOp, ↓evW_const, ↓constW_int, inR_i64, Int.reduceNeg, Int.reduceLE, and_self, ↓z_cond, ↓constW_nils, ↓z_ret, ↓z_seq_rt, ↓z_blk_rt, ↓z_lp_rt, ↓z_end_rt, resLW, res1W, Nat.mul_one, ↓z_coeL_cons, ↓z_coeL_nil, ↓z_pack2, ↓z_coe_int, ↓z_coe_nils, true_and, ↓z_skip, reduceCtorEq, ↓z_buildSlice, ↓y_ty22, ↓z_slTy, ↓y_sz3, Nat.reduceLeDiff, maxLen_lit, ↓y_zr3, List.length_cons, List.length_nil, Nat.zero_add, ↓z_repL_s, ↓z_repL_0, ↓z_cat_nil_r, ↓z_bld_cons, ↓spsW_cons, ↓drW_cons, ↓drW_nil, ↓z_bld_nil, ↓z_callb, ↓z_evL_cons, ↓z_evL_nil, ↓z_append, ↓z_nint_sl, ↓y_by3, ↓z_src_slx, ↓z_app_osl, ↓lkoW_cons, List.length_map, ↓z_room, ↓z_nm_cons, ↓z_nmC_int, ↓z_nm_nil, ↓z_pg_cons, ↓z_mn_slx, ↓z_mn_osl, ↓z_mn_sl, ↓z_mn_int, ↓z_mn_bool, ↓z_pg_nil, ↓z_so_cons, ↓z_blk_nrm, ↓z_bn_add, ↓wrW_i64, ↓z_lp_nrm, ↓z_wk, ↓z_wkE_cons, D.int.injEq, D.osl.injEq, ↓z_wkE_nil, and_true, ↓z_wkO_cons, ↓z_wkO_nil, ↓z_mn_tup, ↓z_ex, ↓nthW_cons, Nat.reduceSub, ↓z_bn_neq, ↓z_cnd, ↓z_gdt, ne_eq, not_true_eq_false, ↓z_cl_int, ↓z_allP_cons, ↓z_isP_int, ↓z_allP_nil]); (try simp only [Int.toNat_natCast, Nat.mul_one, Bool.or_false, Bool.false_or, Bool.or_self, Bool.or_true])
          skip
          exact ⟨by omega, by omega, by omega, by omega, (i + 1, a + v, acc ++ [x]), ⟨by simp only; omega, by simp only; omega, by simp; omega, h4⟩, by simp only; omega, ⟨by simp, by simp, by simp⟩, by simp⟩
      · have : i = m := by omega
        subst this
        rw [Nat.sub_self, decR] at h4
        rw [← h4]
        simp [rD]

set_option maxRecDepth 100000 in
set_option maxHeartbeats 8000000 in
theorem fn_refGetStrings (G : Glob)  (b : List UInt8) (hb : b.length ≤ 100000) : Fn G Try.prog 32 [.sl 1 b.length (b.map bD)] (rD (fun l => .sl 1 l.length (l.map (D.str))) .nils (decL decB 1 b)) := by
  refine Fn.mk (c := _) Try.func32 rfl rfl Try.ntmps32 Try.results32 ?_
  (simp -dsimp only [bodyW, List.length_cons, List.length_nil, Nat.zero_add, Nat.reduceLeDiff, wfL, ↓z_seq, ↓z_region, ↓z_ops_plain, ↓z_assign, ↓evW_const, ↓constW_nils, ↓z_put, Nat.reduceLT, ↓constW_int, inR_i64, Int.reduceNeg, Int.reduceLE, and_self, ↓z_ops_nil, ↓z_seq_nrm, ↓z_move, ↓evW_tmp, ↓lkW_cons, reduceCtorEq, ↓reduceIte, ↓z_lk_env, ↓z_callv, ↓evW_func, ↓z_evL_cons, ↓z_evL_nil, ↓z_fun0, ↓z_coeL_cons, ↓z_coe_sl, ↓z_coe_int, ↓z_coeL_nil, true_and])
  intro _
  refine call_fn (fn_refLength G b 1 (by decide)) fun _ => ?_
  unfold decL
  cases h : decN b 1 with
  | error e =>
    have he := decN_err h
    (simp -dsimp only [↓z_put, Nat.reduceLT, ↓z_ops_plain, ↓z_move, ↓evW_tmp, ↓lkW_cons, ↓reduceIte, ↓z_extract, rD_err, Nat.reduceEqDiff, ↓z_assign, ↓z_ops_nil, ↓z_seq_nrm, ↓z_seq, ↓z_region, ↓z_binOp, ↓evW_const, ↓constW_int, inR_i64, Int.reduceNeg, Int.reduceLE, and_self, ↓z_cond, ↓constW_nils, ↓z_ret, ↓z_seq_rt, ↓z_end_rt, resLW, res1W, ↓z_coeL_cons, ↓z_coeL_nil, ↓z_pack2, D.tup.injEq, List.cons.injEq, and_true, ↓z_coe_int, true_and, ↓z_coe_nils, ↓z_skip, ↓z_block, ↓z_loop, ↓z_ex, ↓nthW_cons, reduceCtorEq, Nat.reduceSub, ↓z_bn_neq, ↓z_cnd, ↓z_gdt, ne_eq, z_ite, Classical.not_not])
    refine ⟨fun _ => trivial, fun h0 => ?_⟩
    exfalso; omega
  | ok p =>
    obtain ⟨m, u⟩ := p
    have hu := decN_ok h
    have hd := Nat.div_le_self (b.length - u) 1
    (simp -dsimp only [↓z_put, Nat.reduceLT, ↓z_ops_plain, ↓z_move, ↓evW_tmp, ↓lkW_cons, ↓reduceIte, ↓z_extract, rD_ok, Nat.reduceEqDiff, ↓z_assign, ↓z_ops_nil, ↓z_seq_nrm, ↓z_seq, ↓z_region, ↓z_binOp, ↓evW_const, ↓constW_int, inR_i64, Int.reduceNeg, Int.reduceLE, and_self, ↓z_cond, ↓constW_nils, ↓z_ret, ↓z_seq_rt, ↓z_end_rt, resLW, res1W, ↓z_coeL_cons, ↓z_coeL_nil, ↓z_pack2, ↓z_coe_int, ↓z_coe_nils, true_and, ↓z_skip, ↓z_block, ↓z_loop, ↓z_ex, ↓nthW_cons, reduceCtorEq, Nat.reduceSub, ↓z_bn_neq, ↓z_cnd, ↓z_gdt, ne_eq, not_true_eq_false])
    refine hold_intro ⟨[(8, 1)], Nat × Nat × List (List UInt8), fun x => ⟨47, 1, [(0, .sl 1 b.length (b.map bD)), (5, .int .i64 m), (9, .int .i64 x.1), (6, .int .i64 x.2.1), (8, .osl 0 1 x.2.2.length)], [(0, x.2.2.map (D.str))]⟩,
      fun x => x.1 ≤ m ∧ x.2.1 ≤ b.length ∧ x.2.2.length = x.1 ∧ decR decB b (m - x.1) x.2.1 x.2.2 = decR decB b m u [], fun x => m - x.1, ?_, ?_⟩
    · (simp -dsimp only [↓z_ad_cons, Nat.reduceLT, ↓lkW_cons, Nat.reduceEqDiff, ↓reduceIte, ↓z_nm_nil, ↓z_pg_cons, ↓z_mn_int, ↓z_mn_nils, ↓z_mn_bool, ↓z_mn_sl, ↓z_pg_env, ↓z_pg_env0, ↓z_ad_nil, ↓z_wk, ↓z_wkE_cons, reduceCtorEq, D.int.injEq, true_and, D.osl.injEq, ↓z_wkE_nil, and_true, ↓z_wkO_cons, ↓lkoW_cons, ↓z_wkO_nil]); (try simp only [Int.toNat_natCast, Nat.mul_one, Bool.or_false, Bool.false_or, Bool.or_self, Bool.or_true])
      refine ⟨(0, u, []), ⟨by simp, hu.2.1, by simp, by simp⟩, ?_⟩
      simp
    · rintro ⟨i, a, acc⟩ ⟨h1, h2, h3, h4⟩
      simp only at h1 h2 h3 h4
      (simp -dsimp only [↓z_seq, ↓z_region, ↓z_ops_plain, ↓z_move, ↓evW_tmp, ↓lkW_cons, reduceCtorEq, ↓reduceIte, Nat.reduceEqDiff, ↓z_put, Nat.reduceLT, ↓z_binOp, ↓z_bn_lss, ↓z_ops_nil, ↓z_seq_nrm, ↓z_cond, ↓z_cnd, ↓z_gdt, ↓z_skip, ↓z_block, ↓z_slice, ↓z_evO_some, ↓z_bo_some, ↓z_evO_none, ↓z_bo_none, ↓y_ty28, ↓z_seTy_sl, ↓y_sz5, ↓z_slc_sl_ln, ↓z_sub_map, ↓z_callv, ↓evW_func, ↓z_evL_cons, ↓z_evL_nil, ↓z_fun0, ↓z_coeL_cons, ↓z_coe_sl, ↓z_coeL_nil, true_and, ↓z_exit, ↓z_seq_ext, ↓z_lp_ext, ↓z_blk_ext, ↓z_assign, ↓evW_const, ↓constW_int, inR_i64, Int.reduceNeg, Int.reduceLE, and_self, ↓z_ret, ↓z_end_rt, resLW, res1W, ↓z_pack2, ↓z_coe_int, ↓z_coe_osl, ↓lkoW_cons, ↓z_allP_str, List.length_map, Nat.mul_one, z_ite]); (try simp only [Int.toNat_natCast])
      refine ⟨fun hlt => ⟨by omega, by omega, call_fn (fn_at (fn_refGetBytes G) b a) fun _ => ?_⟩, fun hge => ?_⟩
      · have hm : m - i = (m - (i + 1)) + 1 := by omega
        rw [hm, decR] at h4
        cases hx : decB (b.drop a) with
        | error e =>
          have he := Dec_str.err hx
          rw [hx] at h4
          simp only at h4
          rw [← h4]
          (simp -dsimp only [↓z_put, Nat.reduceLT, ↓z_ops_plain, ↓z_move, ↓evW_tmp, ↓lkW_cons, ↓reduceIte, ↓z_extract, rD_err, Nat.reduceEqDiff, ↓z_assign, ↓z_ops_nil, ↓z_seq_nrm, ↓z_seq, ↓z_region, ↓z_binOp, ↓evW_const, ↓constW_int, inR_i64, Int.reduceNeg, Int.reduceLE, and_self, ↓z_cond, ↓constW_nils, ↓z_ret, ↓z_seq_rt, ↓z_blk_rt, ↓z_lp_rt, ↓z_end_rt, resLW, res1W, Nat.mul_one, ↓z_coeL_cons, ↓z_coeL_nil, ↓z_pack2, D.tup.injEq, List.cons.injEq, and_true, ↓z_coe_int, true_and, ↓z_coe_nils, ↓z_skip, reduceCtorEq, ↓z_buildSlice, ↓y_ty23, ↓z_slTy, ↓y_sz9, Nat.reduceLeDiff, maxLen_lit, ↓y_zr9, List.length_cons, List.length_nil, Nat.zero_add, ↓z_repL_s, ↓z_repL_0, ↓z_cat_nil_r, ↓z_bld_cons, ↓spsW_cons, ↓drW_cons, ↓drW_nil, ↓z_bld_nil, ↓z_callb, ↓z_evL_cons, ↓z_evL_nil, ↓z_append, ↓z_nint_sl, ↓y_by9, ↓z_src_slx, ↓z_app_osl, ↓lkoW_cons, List.length_map, ↓z_room, ↓z_nm_cons, ↓z_nmC_str, ↓z_nm_nil, ↓z_pg_cons, ↓z_mn_slx, ↓z_mn_osl, ↓z_mn_sl, ↓z_mn_int, ↓z_mn_bool, ↓z_pg_nil, ↓z_so_cons, ↓z_blk_nrm, ↓z_bn_add, ↓wrW_i64, ↓z_lp_nrm, ↓z_wk, ↓z_wkE_cons, D.int.injEq, D.osl.injEq, ↓z_wkE_nil, ↓z_wkO_cons, ↓z_wkO_nil, ↓z_mn_tup, ↓z_ex, ↓nthW_cons, Nat.reduceSub, ↓z_bn_neq, ↓z_cnd, ↓z_gdt, ne_eq, z_ite, Classical.not_not, ↓z_cl_str, ↓z_allP_cons, ↓z_isP_str, ↓z_allP_nil, ↓z_mn_str]); (try simp only [Int.toNat_natCast, Nat.mul_one, Bool.or_false, Bool.false_or, Bool.or_self, Bool.or_true])
          refine ⟨fun _ => trivial, fun h0 => ?_⟩
          exfalso; omega
        | ok p =>
          obtain ⟨x, v⟩ := p
          rw [hx] at h4
          simp only at h4
          have hv := Dec_str.ok hx
          rw [List.length_drop] at hv
          (simp -dsimp only [↓z_put, Nat.reduceLT, ↓z_ops_plain, ↓z_move, ↓evW_tmp, ↓lkW_cons, ↓reduceIte, ↓z_extract, rD_ok, Nat.reduceEqDiff, ↓z_assign, ↓z_ops_nil, ↓z_seq_nrm, ↓z_seq, ↓z_region, ↓z_binOp, ↓evW_const, ↓constW_int, inR_i64, Int.reduceNeg, Int.reduceLE, and_self, ↓z_cond, ↓constW_nils, ↓z_ret, ↓z_seq_rt, ↓z_blk_rt, ↓z_lp_rt, ↓z_end_rt, resLW, res1W, Nat.mul_one, ↓z_coeL_cons, ↓z_coeL_nil, ↓z_pack2, ↓z_coe_int, ↓z_coe_nils, true_and, ↓z_skip, reduceCtorEq, ↓z_buildSlice, ↓y_ty23, ↓z_slTy, ↓y_sz9, Nat.reduceLeDiff, maxLen_lit, ↓y_zr9, List.length_cons, List.length_nil, Nat.zero_add, ↓z_repL_s, ↓z_repL_0, ↓z_cat_nil_r, ↓z_bld_cons, ↓spsW_cons, ↓drW_cons, ↓drW_nil, ↓z_bld_nil, ↓z_callb, ↓z_evL_cons, ↓z_evL_nil, ↓z_append, ↓z_nint_sl, ↓y_by9, ↓z_src_slx, ↓z_app_osl, ↓lkoW_cons, List.length_map, ↓z_room, ↓z_nm_cons, ↓z_nmC_str, ↓z_nm_nil, ↓z_pg_cons, ↓z_mn_slx, ↓z_mn_osl, ↓z_mn_sl, ↓z_mn_int, ↓z_mn_bool, ↓z_pg_nil, ↓z_so_cons, ↓z_blk_nrm, ↓z_bn_add, ↓wrW_i64, ↓z_lp_nrm, ↓z_wk, ↓z_wkE_cons, D.int.injEq, D.osl.injEq, ↓z_wkE_nil, and_true, ↓z_wkO_cons, ↓z_wkO_nil, ↓z_mn_tup, ↓z_ex, ↓nthW_cons, Nat.reduceSub, ↓z_bn_neq, ↓z_cnd, ↓z_gdt, ne_eq, not_true_eq_false, ↓z_cl_str, ↓z_allP_cons, ↓z_isP_str, ↓z_allP_nil, ↓z_mn_str]); (try simp only [Int.toNat_natCast, Nat.mul_one, Bool.or_false, Bool.false_or, Bool.or_self, Bool.or_true])
          skip
          exact ⟨by omega, by omega, by omega, by omega, (i + 1, a + v, acc ++ [x]), ⟨by simp only; omega, by simp only; omega, by simp; omega, h4⟩, by simp only; omega, ⟨by simp, by simp, by simp⟩, by simp⟩
      · have : i = m := by omega
        subst this
        rw [Nat.sub_self, decR] at h4
        rw [← h4]
        simp [rD]

set_option maxRecDepth 100000 in
set_option maxHeartbeats 8000000 in
theorem fn_GetInts (G : Glob) (b : List UInt8) (hb : b.length ≤ 100000) : Fn G Try.prog 28 [.sl 1 b.length (b.map bD)] (rD (fun l => .sl 1 l.length (l.map (D.int .i64))) .nils (decL decI 1 b)) := by
  refine Fn.mk (c := _) Try.func28 rfl rfl Try.ntmps28 Try.results28 ?_
  (simp -dsimp only [bodyW, List.length_cons, List.length_nil, Nat.zero_add, Nat.reduceLeDiff, wfL, ↓z_seq, ↓z_region, ↓z_ops_plain, ↓z_assign, ↓evW_const, ↓constW_nils, ↓z_put, Nat.reduceLT, ↓constW_int, inR_i64, Int.reduceNeg, Int.reduceLE, and_self, ↓z_ops_nil, ↓z_seq_nrm, ↓z_move, ↓evW_tmp, ↓lkW_cons, reduceCtorEq, ↓reduceIte, ↓z_lk_env, ↓z_callv, ↓evW_func, ↓z_evL_cons, ↓z_evL_nil, ↓z_fun0, ↓z_coeL_cons, ↓z_coe_sl, ↓z_coe_int, ↓z_coe_fn, ↓z_coeL_nil, true_and])
  intro _
  refine call_fn (fn_getInt G 24 decI 1 (by decide) Dec_int (fn_GetInt' G) b hb) fun _ => ?_
  cases h : decL decI 1 b with
  | error e =>
    (simp -dsimp only [↓z_put, Nat.reduceLT, ↓z_ops_plain, ↓z_extract, ↓evW_tmp, ↓lkW_cons, ↓reduceIte, rD_err, Nat.reduceEqDiff, ↓z_assign, ↓z_ops_nil, ↓z_seq_nrm, ↓z_ret, ↓z_end_rt, resLW, res1W, ↓z_coeL_cons, ↓z_coeL_nil, ↓z_pack2, D.tup.injEq, List.cons.injEq, and_true, true_and, ↓z_ex, ↓nthW_cons, reduceCtorEq, Nat.reduceSub, ↓z_coe_int, ↓z_coe_nils, and_self]); (try simp only [Int.toNat_natCast, Nat.mul_one, Bool.or_false, Bool.false_or, Bool.or_self, Bool.or_true])
  | ok p =>
    obtain ⟨m, u⟩ := p
    (simp -dsimp only [↓z_put, Nat.reduceLT, ↓z_ops_plain, ↓z_extract, ↓evW_tmp, ↓lkW_cons, ↓reduceIte, rD_ok, Nat.reduceEqDiff, ↓z_assign, ↓z_ops_nil, ↓z_seq_nrm, ↓z_ret, ↓z_end_rt, resLW, res1W, ↓z_coeL_cons, ↓z_coeL_nil, ↓z_pack2, D.tup.injEq, List.cons.injEq, and_true, true_and, ↓z_ex, ↓nthW_cons, reduceCtorEq, Nat.reduceSub, ↓z_coe_int, ↓z_coe_sl, and_self]); (try simp only [Int.toNat_natCast, Nat.mul_one, Bool.or_false, Bool.false_or, Bool.or_self, Bool.or_true])

set_option maxRecDepth 100000 in
set_option maxHeartbeats 8000000 in
theorem fn_GetStrings (G : Glob) (b : List UInt8) (hb : b.length ≤ 100000) : Fn G Try.prog 31 [.sl 1 b.length (b.map bD)] (rD (fun l => .sl 1 l.length (l.map (D.str))) .nils (decL decB 1 b)) := by
  refine Fn.mk (c := _) Try.func31 rfl rfl Try.ntmps31 Try.results31 ?_
  (simp -dsimp only [bodyW, List.length_cons, List.length_nil, Nat.zero_add, Nat.reduceLeDiff, wfL, ↓z_seq, ↓z_region, ↓z_ops_plain, ↓z_assign, ↓evW_const, ↓constW_nils, ↓z_put, Nat.reduceLT, ↓constW_int, inR_i64, Int.reduceNeg, Int.reduceLE, and_self, ↓z_ops_nil, ↓z_seq_nrm, ↓z_move, ↓evW_tmp, ↓lkW_cons, reduceCtorEq, ↓reduceIte, ↓z_lk_env, ↓z_callv, ↓evW_func, ↓z_evL_cons, ↓z_evL_nil, ↓z_fun0, ↓z_coeL_cons, ↓z_coe_sl, ↓z_coe_int, ↓z_coe_fn, ↓z_coeL_nil, true_and])
  intro _
  refine call_fn (fn_getStr G 26 decB 1 (by decide) Dec_str (fn_GetBytes G) b hb) fun _ => ?_
  cases h : decL decB 1 b with
  | error e =>
    (simp -dsimp only [↓z_put, Nat.reduceLT, ↓z_ops_plain, ↓z_extract, ↓evW_tmp, ↓lkW_cons, ↓reduceIte, rD_err, Nat.reduceEqDiff, ↓z_assign, ↓z_ops_nil, ↓z_seq_nrm, ↓z_ret, ↓z_end_rt, resLW, res1W, ↓z_coeL_cons, ↓z_coeL_nil, ↓z_pack2, D.tup.injEq, List.cons.injEq, and_true, true_and, ↓z_ex, ↓nthW_cons, reduceCtorEq, Nat.reduceSub, ↓z_coe_int, ↓z_coe_nils, and_self]); (try simp only [Int.toNat_natCast, Nat.mul_one, Bool.or_false, Bool.false_or, Bool.or_self, Bool.or_true])
  | ok p =>
    obtain ⟨m, u⟩ := p
    (simp -dsimp only [↓z_put, Nat.reduceLT, ↓z_ops_plain, ↓z_extract, ↓evW_tmp, ↓lkW_cons, ↓reduceIte, rD_ok, Nat.reduceEqDiff, ↓z_assign, ↓z_ops_nil, ↓z_seq_nrm, ↓z_ret, ↓z_end_rt, resLW, res1W, ↓z_coeL_cons, ↓z_coeL_nil, ↓z_pack2, D.tup.injEq, List.cons.injEq, and_true, true_and, ↓z_ex, ↓nthW_cons, reduceCtorEq, Nat.reduceSub, ↓z_coe_int, ↓z_coe_sl, and_self]); (try simp only [Int.toNat_natCast, Nat.mul_one, Bool.or_false, Bool.false_or, Bool.or_self, Bool.or_true])

end Go.Abs

