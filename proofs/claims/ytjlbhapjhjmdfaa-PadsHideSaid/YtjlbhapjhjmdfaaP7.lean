/-
  PAD, seventh walks: the specification's agreement.
-/
import Derived.Test.YtjlbhapjhjmdfaaP6
namespace Go.Abs
open Go.Proofs

def fitA (c d : List (List UInt8)) (k : Nat) (x : Int) (v : Nat) : Bool := (decide (x < 0) || decide (x = (v : Int))) && (ysA c d k).all (fun y => decide (y = (v : Int)))
def manyA (c d : List (List UInt8)) (k : Nat) (x : Int) : Nat → Nat
  | 0 => 0
  | v + 1 => manyA c d k x v + (if fitA c d k x v then 1 else 0)

theorem xor_i64 (a b : Nat) (ha : a < 256) (hb : b < 256) : bits .xor .i64 (a : Int) (b : Int) = ((a ^^^ b : Nat) : Int) := by
  show IntKind.i64.wrap ((BitVec.ofInt 64 (a : Int) ^^^ BitVec.ofInt 64 (b : Int)).toNat : Int) = _
  have h1 : (BitVec.ofInt 64 (a : Int)).toNat = a := by
    rw [BitVec.ofInt_natCast, BitVec.toNat_ofNat]; exact Nat.mod_eq_of_lt (by omega)
  have h2 : (BitVec.ofInt 64 (b : Int)).toNat = b := by
    rw [BitVec.ofInt_natCast, BitVec.toNat_ofNat]; exact Nat.mod_eq_of_lt (by omega)
  have h3 : a ^^^ b < 2 ^ 8 := Nat.xor_lt_two_pow ha hb
  rw [BitVec.toNat_xor, h1, h2, IntKind.wrap_i64]
  omega
theorem xor_fit (a b : UInt8) (v : Nat) (hv : v < 256) : ((a.toNat : Int) = bits .xor .i64 (b.toNat : Int) (v : Int)) ↔ (((a ^^^ b).toNat : Int) = (v : Int)) := by
  rw [xor_i64 _ _ b.toNat_lt hv, UInt8.toNat_xor]
  constructor
  · intro h
    have h : a.toNat = b.toNat ^^^ v := by omega
    rw [h, Nat.xor_comm b.toNat v, Nat.xor_assoc, Nat.xor_self, Nat.xor_zero]
  · intro h
    have h : a.toNat ^^^ b.toNat = v := by omega
    rw [← h, Nat.xor_comm a.toNat b.toNat, ← Nat.xor_assoc, Nat.xor_self, Nat.zero_xor]
def fitL (ys : List Int) (x : Int) (v : Nat) : Bool := (decide (x < 0) || decide (x = (v : Int))) && ys.all (fun y => decide (y = (v : Int)))
theorem fitL_cons {y : Int} {ys : List Int} {x : Int} {v : Nat} (hy : 0 ≤ y) : fitL (y :: ys) x v = (!decide (0 ≤ x ∧ x ≠ y) && fitL ys y v) := by
  unfold fitL
  rw [List.all_cons]
  have e : decide (y < 0) = false := decide_eq_false (by omega)
  rw [e, Bool.false_or]
  by_cases h1 : x < 0
  · have e2 : decide (0 ≤ x ∧ x ≠ y) = false := decide_eq_false (by omega)
    rw [decide_eq_true h1, e2]; rfl
  · rw [decide_eq_false h1, Bool.false_or]
    by_cases h2 : y = (v : Int)
    · subst h2
      by_cases h3 : x = (v : Int)
      · subst h3; simp
      · have e2 : decide (0 ≤ x ∧ x ≠ (v : Int)) = true := decide_eq_true ⟨by omega, h3⟩
        rw [decide_eq_false h3, e2]; rfl
    · rw [decide_eq_false h2]; simp
theorem agI_fit : ∀ (ys : List Int) (x : Int), (∀ y ∈ ys, 0 ≤ y ∧ y < 256) → x < 256 → match agI ys x with
    | none => ∀ v, fitL ys x v = false
    | some y => (y < 0 → ∀ v, fitL ys x v = true) ∧ (0 ≤ y → y < 256 ∧ ∀ v : Nat, fitL ys x v = decide ((v : Int) = y))
  | [], x, _, hx => by
    refine ⟨fun h v => by simp [fitL, h], fun h => ⟨hx, fun v => ?_⟩⟩
    have e : decide (x < 0) = false := decide_eq_false (by omega)
    simp only [fitL, e, Bool.false_or, List.all_nil, Bool.and_true]
    exact decide_eq_decide.2 ⟨fun h => h.symm, fun h => h.symm⟩
  | y :: ys, x, h, hx => by
    have hy := h y (by simp)
    have ih := agI_fit ys y (fun z hz => h z (by simp [hz])) hy.2
    simp only [agI]
    by_cases hc : 0 ≤ x ∧ x ≠ y
    · rw [if_pos hc]
      intro v
      rw [fitL_cons hy.1, decide_eq_true hc]; rfl
    · rw [if_neg hc]
      have e : ∀ v, fitL (y :: ys) x v = fitL ys y v := fun v => by rw [fitL_cons hy.1, decide_eq_false hc]; rfl
      simp only [e]
      exact ih
theorem many_none {c d : List (List UInt8)} {k : Nat} {x : Int} (h : ∀ v, fitA c d k x v = false) : ∀ n, manyA c d k x n = 0
  | 0 => rfl
  | n + 1 => by simp [manyA, h n, many_none h n]
theorem many_all {c d : List (List UInt8)} {k : Nat} {x : Int} (h : ∀ v, fitA c d k x v = true) : ∀ n, manyA c d k x n = n
  | 0 => rfl
  | n + 1 => by simp [manyA, h n, many_all h n]
theorem many_one {c d : List (List UInt8)} {k : Nat} {x y : Int} (h : ∀ v : Nat, fitA c d k x v = decide ((v : Int) = y)) : ∀ n : Nat, manyA c d k x n = if 0 ≤ y ∧ y < n then 1 else 0
  | 0 => by rw [if_neg (by omega)]; rfl
  | n + 1 => by
    rw [manyA, many_one h n, h n]
    by_cases e : (n : Int) = y
    · subst e
      rw [if_neg (by omega : ¬ (0 ≤ (n : Int) ∧ (n : Int) < (n : Int))), if_pos (by omega : 0 ≤ (n : Int) ∧ (n : Int) < ((n + 1 : Nat) : Int)), decide_eq_true rfl]; rfl
    · have e2 : decide ((n : Int) = y) = false := decide_eq_false e
      rw [e2]
      by_cases h2 : 0 ≤ y ∧ y < (n : Int)
      · rw [if_pos h2, if_pos (by omega : 0 ≤ y ∧ y < ((n + 1 : Nat) : Int))]; rfl
      · rw [if_neg h2, if_neg (by omega : ¬ (0 ≤ y ∧ y < ((n + 1 : Nat) : Int)))]; rfl
theorem ysA_mem {c d : List (List UInt8)} {k : Nat} {y : Int} (h : y ∈ ysA c d k) : 0 ≤ y ∧ y < 256 := by
  obtain ⟨i, hi, rfl⟩ := List.getElem_of_mem h
  simp only [ysA, List.getElem_zipWith]
  have := (c[i]'(by simp [ysA] at hi; omega) |>.getD k 0) ^^^ (d[i]'(by simp [ysA] at hi; omega) |>.getD k 0) |>.toNat_lt
  omega
/-- How many values there are, and what the quick way finds. -/
theorem many_spec (c d : List (List UInt8)) (k : Nat) (x : Int) (hx : x < 256) : match agI (ysA c d k) x with
    | none => manyA c d k x 256 = 0
    | some y => manyA c d k x 256 ≠ 0 ∧ (manyA c d k x 256 = 256 ↔ y < 0) := by
  have h := agI_fit (ysA c d k) x (fun y hy => ysA_mem hy) hx
  have e : ∀ v, fitA c d k x v = fitL (ysA c d k) x v := fun _ => rfl
  cases ha : agI (ysA c d k) x with
  | none => rw [ha] at h; exact many_none (fun v => (e v).trans (h v)) 256
  | some y =>
    rw [ha] at h
    by_cases hy : y < 0
    · have := many_all (fun v => (e v).trans (h.1 hy v)) 256
      rw [this]; exact ⟨by decide, fun _ => hy, fun _ => rfl⟩
    · have := many_one (fun v => (e v).trans ((h.2 (by omega)).2 v)) 256
      rw [if_pos ⟨by omega, (h.2 (by omega)).1⟩] at this
      rw [this]; exact ⟨by decide, by omega, by omega⟩

def agR (c d : List (List UInt8)) (w : List Int) : D := match agP c d w with
  | none => .agg [.int .i64 0, .bool false]
  | some f => .agg [.int .i64 f, .bool true]
theorem agR_none {c d : List (List UInt8)} {w : List Int} (h : agP c d w = none) : D.agg [.int .i64 0, .bool false] = agR c d w := by unfold agR; rw [h]
theorem agR_some {c d : List (List UInt8)} {w : List Int} {f : Int} (h : agP c d w = some f) : D.agg [.int .i64 f, .bool true] = agR c d w := by unfold agR; rw [h]
set_option maxRecDepth 100000 in
set_option maxHeartbeats 8000000 in
theorem fn_byteAt (G : Glob) (c d : List (List UInt8)) (x : Int) (k : Nat) (hl : c.length = d.length) (hc : ∀ (j : Nat) (hj : j < c.length), k < c[j].length) (hd : ∀ (j : Nat) (hj : j < d.length), k < d[j].length) : Fn G Try.prog 30 [.sl 1 c.length (c.map D.str), .sl 1 d.length (d.map D.str), .int .i64 x, .int .i64 k] (.int .i64 (manyA c d k x 256)) := by
  refine Fn.mk (c := _) Try.func30 rfl rfl Try.ntmps30 Try.results30 ?_
  (simp -dsimp only [bodyW, List.length_cons, List.length_nil, Nat.zero_add, Nat.reduceAdd, Nat.reduceLeDiff, wfL, ↓z_seq, ↓z_region, ↓z_ops_plain, ↓z_assign, ↓evW_const, ↓constW_int, inR_i64, Int.reduceNeg, Int.reduceLE, and_self, ↓z_put, Nat.reduceLT, ↓z_ops_nil, ↓z_seq_nrm, ↓z_block, ↓z_loop, true_and])
  intro hd1 hd2 hd3 hd4
  have hcl : c.length ≤ 9223372036854775807 := hd1.1.1
  refine hold_intro ⟨[], Nat, fun v => ⟨54, 0, [(10, .int .i64 v), (9, .int .i64 (manyA c d k x v)), (0, .sl 1 c.length (c.map D.str)), (1, .sl 1 d.length (d.map D.str)), (2, .int .i64 x), (3, .int .i64 k)], []⟩, fun v => v ≤ 256 ∧ manyA c d k x v ≤ v, fun v => 256 - v, ?_, ?_⟩
  · (simp -dsimp only [↓z_ad_nil, ↓z_wk, ↓z_wkE_cons, ↓lkW_cons, ↓reduceIte, D.int.injEq, true_and, Nat.reduceEqDiff, reduceCtorEq, ↓z_lk_env, Nat.zero_add, Nat.reduceAdd, ↓z_wkE_nil, and_self, and_true, ↓z_wkO_nil]); (try simp only [Int.toNat_natCast, Nat.mul_one, Bool.or_false, Bool.false_or, Bool.or_self, Bool.or_true])
    exact ⟨0, ⟨by omega, by simp [manyA]⟩, rfl, rfl⟩
  rintro v ⟨hv, hm⟩
  (simp -dsimp only [↓z_seq, ↓z_region, ↓z_ops_plain, ↓z_move, ↓evW_tmp, ↓lkW_cons, ↓reduceIte, ↓z_put, Nat.reduceLT, ↓z_binOp, ↓evW_const, ↓constW_int, inR_i64, Int.reduceNeg, Int.reduceLE, and_self, ↓z_bn_lss, ↓z_ops_nil, ↓z_seq_nrm, ↓z_cond, ↓z_cnd, ↓z_gdt, ↓z_skip, ↓z_block, Nat.reduceEqDiff, reduceCtorEq, ↓z_ops_guard, ↓z_grd, ↓z_dst_s, ↓z_dst_0, ↓z_grdD_b, ↓z_gdf, ↓z_gnf, ↓z_gft, ↓z_pick, ↓z_pick_b, ↓z_gnt, ↓z_gff, ↓constW_bool, ↓z_assign, ↓z_loop, true_and, ↓z_bn_eql, z_ite, ↓z_exit, ↓z_seq_ext, ↓z_lp_ext, ↓z_blk_ext, ↓z_ret, ↓z_end_rt, resLW, res1W, ↓z_coeL_cons, ↓z_coeL_nil, ↓z_pack1, ↓z_coe_int, D.int.injEq])
  refine ⟨fun h0 => ⟨fun h1 => ?_, fun h1 => ?_⟩, fun h0 => ?_⟩
  rotate_left 2
  · have e : v = 256 := by omega
    rw [e]
  all_goals
    refine hold_intro ⟨[], Nat × Bool, fun p => ⟨54, 0, [(12, .int .i64 p.1), (11, .bool p.2), (10, .int .i64 v), (9, .int .i64 (manyA c d k x v)), (0, .sl 1 c.length (c.map D.str)), (1, .sl 1 d.length (d.map D.str)), (2, .int .i64 x), (3, .int .i64 k)], []⟩, fun p => p.1 ≤ c.length ∧ fitA c d k x v = (p.2 && ((ysA c d k).drop p.1).all (fun y => decide (y = (v : Int)))), fun p => c.length - p.1, ?_, ?_⟩
  · (simp -dsimp only [↓z_ad_nil, ↓z_wk, ↓z_wkE_cons, ↓lkW_cons, ↓reduceIte, D.int.injEq, true_and, Nat.reduceEqDiff, D.bool.injEq, reduceCtorEq, ↓z_wkE_nil, and_self, and_true, ↓z_wkO_nil]); (try simp only [Int.toNat_natCast, Nat.mul_one, Bool.or_false, Bool.false_or, Bool.or_self, Bool.or_true])
    exact ⟨(0, true), ⟨by simp, by simp [fitA, h1]⟩, by simp, by simp⟩
  rotate_left 1
  · (simp -dsimp only [↓z_ad_nil, ↓z_wk, ↓z_wkE_cons, ↓lkW_cons, ↓reduceIte, D.int.injEq, true_and, Nat.reduceEqDiff, D.bool.injEq, reduceCtorEq, ↓z_wkE_nil, and_self, and_true, ↓z_wkO_nil]); (try simp only [Int.toNat_natCast, Nat.mul_one, Bool.or_false, Bool.false_or, Bool.or_self, Bool.or_true])
    exact ⟨(0, decide (x = (v : Int))), ⟨by simp, by simp [fitA, h1]⟩, rfl, rfl⟩
  all_goals
    rintro ⟨i, b⟩ ⟨hi, hf⟩
    have hi1 : i ≤ c.length := hi
    have hf1 : fitA c d k x v = (b && ((ysA c d k).drop i).all (fun y => decide (y = (v : Int)))) := hf
    clear hi hf
    (simp -dsimp only [↓z_seq, ↓z_region, ↓z_ops_plain, ↓z_move, ↓evW_tmp, ↓lkW_cons, ↓reduceIte, ↓z_put, Nat.reduceLT, reduceCtorEq, ↓z_callb, ↓z_evL_cons, ↓z_evL_nil, ↓z_len, ↓y_ty22, ↓z_ln_sl, ↓z_binOp, Nat.reduceEqDiff, ↓z_bn_lss, ↓z_ops_nil, ↓z_seq_nrm, ↓z_cond, ↓z_cnd, ↓z_gdt, ↓z_skip, ↓z_block, ↓z_region_d, ↓y_mix, true_and, ↓z_exit, ↓z_seq_ext, ↓z_lp_ext, ↓z_blk_ext, ↓evW_const, ↓constW_int, inR_i64, Int.reduceNeg, Int.reduceLE, and_self, ↓z_bn_add, ↓wrW_i64, ↓z_assign, ↓z_blk_nrm, ↓z_lp_nrm, ↓z_wk, ↓z_wkE_cons, D.int.injEq, ↓z_wkE_nil, and_true, ↓z_wkO_nil, z_gvar, z_ite])
    refine ⟨fun h2 => rgn_m 20 (by decide +kernel) ?_, fun h2 => ?_⟩
    · have hys : (ysA c d k).drop i = (((c[i]'(by omega))[k]'(hc i (by omega)) ^^^ (d[i]'(by omega))[k]'(hd i (by omega))).toNat : Int) :: (ysA c d k).drop (i + 1) := by
        have h : i < (ysA c d k).length := by rw [ysA_length c d k hl]; omega
        rw [List.drop_eq_getElem_cons h, ysA_get (by omega) (by omega) h]
        simp only [List.getD_eq_getElem?_getD, List.getElem?_eq_getElem (hc i (by omega)), List.getElem?_eq_getElem (hd i (by omega)), Option.getD_some]
      cases b
      · (simp -dsimp only [List.take_succ_cons, List.take_zero, List.drop_succ_cons, List.drop_zero, ↓z_region, ↓z_ops_plain, ↓z_move, ↓z_binOp, ↓evW_const, ↓constW_int, inR_i64, Int.reduceNeg, Int.reduceLE, and_self, ↓z_assign, ↓z_ops_nil, ↓z_lp_nrm, true_and, ↓z_seq, ↓z_seq_nrm, ↓z_cond, ↓z_blk_nrm, ↓z_skip, ↓z_ret, ↓z_end_rt, resLW, res1W, ↓z_coeL_cons, ↓z_coeL_nil, ↓z_pack1, ↓z_drw_move, ↓z_drwS, ↓z_grd_none, ↓z_withE, ↓z_rd_tmp, ↓lkW_cons, Nat.reduceEqDiff, ↓reduceIte, ↓z_rd_nil, ↓z_ap_cons, ↓z_ap_nil, ↓evW_tmp, and_true, ↓z_exD_all, ↓z_exD_eq, ↓z_put, Nat.reduceLT, ↓z_drwK, ↓z_grd, ↓z_dst_s, ↓z_dst_0, ↓z_grdD_b, ↓z_gft, ↓z_gnt, ↓z_gtf, ↓z_drw_indexAddr, ↓z_drw_load, ↓z_drw_index, ↓z_drw_convert, ↓z_drw_binOp, ↓z_drw_pick, ↓z_rd_const, ↓z_pick, ↓z_pick_b, ↓constW_bool, Bool.not_true, ↓z_drw_nil, ↓z_bn_add, ↓wrW_i64, ↓z_wk, ↓z_wkE_cons, D.int.injEq, D.bool.injEq, reduceCtorEq, ↓z_wkE_nil, ↓z_wkO_nil]); (try simp only [Int.toNat_natCast, Nat.mul_one, Bool.or_false, Bool.false_or, Bool.or_self, Bool.or_true])
        exact ⟨by omega, (i + 1, false), ⟨by simp only; omega, by rw [hf1]; rfl⟩, by simp only; omega, rfl, rfl⟩
      · (simp -dsimp only [List.take_succ_cons, List.take_zero, List.drop_succ_cons, List.drop_zero, ↓z_region, ↓z_ops_plain, ↓z_move, ↓z_binOp, ↓evW_const, ↓constW_int, inR_i64, Int.reduceNeg, Int.reduceLE, and_self, ↓z_assign, ↓z_ops_nil, ↓z_lp_nrm, true_and, ↓z_seq, ↓z_seq_nrm, ↓z_cond, ↓z_blk_nrm, ↓z_skip, ↓z_ret, ↓z_end_rt, resLW, res1W, ↓z_coeL_cons, ↓z_coeL_nil, ↓z_pack1, ↓z_drw_move, ↓z_drwS, ↓z_grd_none, ↓z_withE, ↓z_rd_tmp, ↓lkW_cons, Nat.reduceEqDiff, ↓reduceIte, ↓z_rd_nil, ↓z_ap_cons, ↓z_ap_nil, ↓evW_tmp, and_true, ↓z_exD_all, ↓z_exD_eq, ↓z_put, Nat.reduceLT, ↓z_drwK, ↓z_grd, ↓z_dst_s, ↓z_dst_0, ↓z_grdD_b, ↓z_gtt, reduceCtorEq, ↓z_drw_indexAddr, ↓z_indexAddr, ↓y_ty22, ↓z_elTy_sl, ↓y_sz9, ↓z_ix_sl, Nat.mul_one, ↓z_exD_and, ↓z_drw_load, ↓z_load, ↓y_ty9, ↓z_agTy_str, ↓loadW_rop, ↓z_rd_f, ↓z_nth_str, ↓z_exD_ex, ↓z_drw_index, ↓z_index, ↓z_in_str, ↓z_inx_str, ↓z_drw_convert, ↓z_convert, ↓y_ty5, ↓y_ty3, ↓z_cvt_int, ↓z_cv_int, ↓z_cvi_u8_i64, ↓z_drw_binOp, ↓z_bn_xor, ↓z_bn_eql, ↓z_drw_pick, ↓z_rd_const, ↓z_pick, ↓z_pick_b, ↓z_drw_nil, ↓z_bn_add, ↓wrW_i64, ↓z_wk, ↓z_wkE_cons, D.int.injEq, D.bool.injEq, ↓z_wkE_nil, ↓z_wkO_nil]); (try simp only [Int.toNat_natCast])
        have hci := hc i (by omega)
        have hdi := hd i (by omega)
        refine ⟨by omega, by omega, by omega, by omega, by omega, by omega, by omega, by omega, by omega, by omega, by omega, (i + 1, decide _), ⟨by simp only; omega, ?_⟩, by simp only; omega, rfl, rfl⟩
        rw [hf1, hys, List.all_cons, Bool.true_and]
        congr 1
        exact decide_eq_decide.2 (xor_fit _ _ v (by omega)).symm
    · rw [List.drop_eq_nil_of_le (by rw [ysA_length c d k hl]; omega), List.all_nil, Bool.and_true] at hf1
      have hm1 : manyA c d k x (v + 1) = manyA c d k x v + (if b = true then 1 else 0) := by rw [manyA, hf1]
      refine ⟨fun hb => ⟨by omega, by omega, v + 1, ⟨by omega, ?_⟩, by omega, by omega, ?_⟩, fun hb => ⟨by omega, v + 1, ⟨by omega, ?_⟩, by omega, by omega, ?_⟩⟩
      all_goals (rw [hm1, hb]; first | omega | (rw [if_pos rfl]; omega) | (rw [if_neg (by simp)]; omega))
set_option maxRecDepth 100000 in
set_option maxHeartbeats 8000000 in
theorem fn_refAgree (G : Glob) (c d : List (List UInt8)) (w : List Int) : Fn G Try.prog 20 [.sl 1 c.length (c.map D.str), .sl 1 d.length (d.map D.str), .sl 1 w.length (w.map (D.int .i64))] (agR c d w) := by
  refine Fn.mk (c := _) Try.func20 rfl rfl Try.ntmps20 Try.results20 ?_
  (simp -dsimp only [bodyW, List.length_cons, List.length_nil, Nat.zero_add, Nat.reduceAdd, Nat.reduceLeDiff, wfL, ↓z_seq, ↓z_region, ↓z_ops_plain, ↓z_alloc, ↓y_zr47, ↓z_new, ↓z_nm_nil, Nat.reduceLT, ↓z_pg_env, ↓z_mn_sl, ↓z_pg_env0, ↓z_put, ↓z_ops_nil, ↓z_seq_nrm, ↓z_move, ↓evW_tmp, ↓lkW_cons, reduceCtorEq, ↓reduceIte, ↓z_callb, ↓z_evL_cons, ↓z_evL_nil, ↓z_len, ↓y_ty22, ↓z_ln_sl, Nat.reduceEqDiff, ↓z_binOp, ↓z_bn_neq, ↓z_cond, ↓z_cnd, ↓z_gdt, ne_eq, ↓z_build, ↓y_ty47, ↓z_blTy_st, ↓z_bld_nil, ↓z_store, ↓y_sz47, ↓z_cl_oag, ↓z_store_ptr, ↓lkoW_cons, ↓spsW_cons, ↓drW_cons, Nat.reduceSub, ↓drW_nil, ↓z_cat_nil_r, ↓z_so_cons, ↓z_put_none, ↓z_ret, ↓z_seq_rt, ↓z_end_rt, resLW, res1W, ↓z_agTy_st, ↓z_coeL_cons, ↓z_coeL_nil, ↓z_pack1, ↓loadW_ptr, ↓z_rd_t, ↓z_sub_c, ↓z_sub_nil, ↓z_coe_oag, ↓z_coeC_cons, ↓z_coeS_int, ↓z_coeS_bool, ↓z_coeC_nil, true_and, ↓z_skip, ↓z_assign, ↓evW_const, ↓constW_int, inR_i64, Int.reduceNeg, Int.reduceLE, and_self, ↓z_block, ↓z_loop, z_ite, Classical.not_not])
  intro hd1 hd2 hd3
  have hc : c.length ≤ 9223372036854775807 := hd1.1.1
  have hd : d.length ≤ 9223372036854775807 := hd2.1.1
  have hw : w.length ≤ 9223372036854775807 := hd3.1.1
  refine ⟨fun h => ⟨by kernel_rfl, agR_none (agP_ne h)⟩, fun h => ?_⟩
  refine hold_intro ⟨[], Nat, fun i => ⟨78, 1, [(7, .int .i64 i), (6, .ptr 0 0), (0, .sl 1 c.length (c.map D.str)), (1, .sl 1 d.length (d.map D.str)), (2, .sl 1 w.length (w.map (D.int .i64)))], [(0, [.int .i64 0, .bool false])]⟩, fun i => i ≤ c.length ∧ ∀ (j : Nat) (hj : j < i) (hx : j < c.length) (hy : j < d.length), c[j].length = w.length ∧ d[j].length = w.length, fun i => c.length - i, ?_, ?_⟩
  · (simp -dsimp only [↓z_ad_nil, ↓z_wk, ↓z_wkE_cons, ↓lkW_cons, ↓reduceIte, D.int.injEq, true_and, Nat.reduceEqDiff, reduceCtorEq, Nat.zero_add, Nat.reduceAdd, ↓z_wkE_nil, and_self, and_true, ↓z_wkO_cons, ↓lkoW_cons, ↓z_wkO_nil]); (try simp only [Int.toNat_natCast, Nat.mul_one, Bool.or_false, Bool.false_or, Bool.or_self, Bool.or_true])
    exact ⟨0, by simp⟩
  rintro i ⟨hi, ha⟩
  (simp -dsimp only [↓z_seq, ↓z_region, ↓z_ops_plain, ↓z_move, ↓evW_tmp, ↓lkW_cons, ↓reduceIte, ↓z_put, Nat.reduceLT, reduceCtorEq, ↓z_callb, ↓z_evL_cons, ↓z_evL_nil, ↓z_len, ↓y_ty22, ↓z_ln_sl, ↓z_binOp, Nat.reduceEqDiff, ↓z_bn_lss, ↓z_ops_nil, ↓z_seq_nrm, ↓z_cond, ↓z_cnd, ↓z_gdt, ↓z_skip, ↓z_block, ↓z_indexAddr, ↓z_elTy_sl, ↓y_sz9, ↓z_ix_sl, ↓z_load, ↓y_ty9, ↓z_agTy_str, ↓loadW_rop, ↓z_rd_f, ↓z_nth_str, ↓z_ln_str, ↓y_ty43, ↓z_bn_neq, ↓z_ops_guard, ↓z_grd, ↓z_dst_s, ↓z_dst_0, ↓z_grdD_b, ↓z_gdf, Nat.mul_one, ne_eq, ↓z_gnf, ↓z_gft, ↓z_pick, ↓z_pick_b, ↓z_gnt, ↓z_gff, ↓evW_const, ↓constW_bool, ↓z_gtt, ↓z_build, ↓y_ty47, ↓z_blTy_st, ↓y_zr47, ↓z_bld_nil, ↓z_store, ↓y_sz47, ↓z_cl_oag, List.length_cons, List.length_nil, Nat.zero_add, Nat.reduceAdd, ↓z_store_ptr, ↓lkoW_cons, Nat.reduceLeDiff, ↓spsW_cons, ↓drW_cons, Nat.reduceSub, ↓drW_nil, ↓z_cat_nil_r, ↓z_so_cons, ↓z_put_none, ↓z_ret, ↓z_blk_rt, ↓z_seq_rt, ↓z_lp_rt, ↓z_end_rt, resLW, res1W, Bool.not_false, ↓z_agTy_st, ↓z_coeL_cons, ↓z_coeL_nil, ↓z_pack1, ↓loadW_ptr, ↓z_rd_t, ↓z_sub_c, ↓z_sub_nil, ↓z_coe_oag, ↓z_coeC_cons, ↓z_coeS_int, ↓z_coeS_bool, ↓z_coeC_nil, true_and, ↓z_blk_nrm, ↓constW_int, inR_i64, Int.reduceNeg, Int.reduceLE, and_self, ↓z_bn_add, ↓wrW_i64, ↓z_assign, ↓z_lp_nrm, ↓z_wk, ↓z_wkE_cons, D.int.injEq, ↓z_wkE_nil, and_true, ↓z_wkO_cons, ↓z_wkO_nil, z_ite, Classical.not_not, ↓z_exit, ↓z_seq_ext, ↓z_lp_ext, ↓z_blk_ext, ↓z_loop]); (try simp only [Int.toNat_natCast])
  refine ⟨fun h1 => ⟨by omega, h1, by omega, ?_⟩, fun h1 => ?_⟩
  · refine ⟨fun h2 => ⟨by kernel_rfl, agR_none (agP_len i (by omega) (by omega) (.inl h2))⟩, fun h2 => ⟨by omega, by omega, by omega, fun h3 => ⟨by kernel_rfl, agR_none (agP_len i (by omega) (by omega) (.inr h3))⟩, fun h3 => ⟨by omega, i + 1, ⟨by omega, ?_⟩, by omega, rfl⟩⟩⟩
    intro j hj hx hy
    by_cases e : j = i
    · subst e; exact ⟨by omega, by omega⟩
    · exact ha j (by omega) hx hy
  have hA : ∀ (j : Nat) (hx : j < c.length) (hy : j < d.length), c[j].length = w.length ∧ d[j].length = w.length := fun j hx hy => ha j (by omega) hx hy
  refine hold_intro ⟨[], Nat × Int, fun p => ⟨78, 1, [(9, .int .i64 p.1), (8, .int .i64 p.2), (6, .ptr 0 0), (0, .sl 1 c.length (c.map D.str)), (1, .sl 1 d.length (d.map D.str)), (2, .sl 1 w.length (w.map (D.int .i64)))], [(0, [.int .i64 0, .bool false])]⟩, fun p => p.1 ≤ w.length ∧ 0 ≤ p.2 ∧ p.2 ≤ p.1 ∧ agP c d w = agO c d (w.drop p.1) p.1 p.2, fun p => w.length - p.1, ?_, ?_⟩
  · (simp -dsimp only [↓z_ad_nil, ↓z_wk, ↓z_wkE_cons, ↓lkW_cons, ↓reduceIte, D.int.injEq, true_and, Nat.reduceEqDiff, reduceCtorEq, ↓z_wkE_nil, and_self, and_true, ↓z_wkO_cons, ↓lkoW_cons, ↓z_wkO_nil]); (try simp only [Int.toNat_natCast, Nat.mul_one, Bool.or_false, Bool.false_or, Bool.or_self, Bool.or_true])
    exact ⟨(0, 0), ⟨by simp, by simp, by simp, agP_go (by omega) hA⟩, by simp, by simp⟩
  rintro ⟨k, f⟩ ⟨hk, hf0, hfk, hP⟩
  have hk1 : k ≤ w.length := hk
  have hf1 : 0 ≤ f := hf0
  have hf2 : f ≤ k := hfk
  have hP1 : agP c d w = agO c d (w.drop k) k f := hP
  clear hk hf0 hfk hP
  (simp -dsimp only [↓z_seq, ↓z_region, ↓z_ops_plain, ↓z_move, ↓evW_tmp, ↓lkW_cons, ↓reduceIte, ↓z_put, Nat.reduceLT, Nat.reduceEqDiff, reduceCtorEq, ↓z_callb, ↓z_evL_cons, ↓z_evL_nil, ↓z_len, ↓y_ty43, ↓z_ln_sl, ↓z_binOp, ↓z_bn_lss, ↓z_ops_nil, ↓z_seq_nrm, ↓z_cond, ↓z_cnd, ↓z_gdt, ↓z_skip, ↓z_block, ↓z_indexAddr, ↓z_elTy_sl, ↓y_sz3, ↓z_ix_sl, ↓z_load, ↓y_ty3, ↓z_agTy_int, ↓loadW_rop, ↓z_rd_f, ↓z_nth_int, ↓evW_const, ↓constW_int, Int.reduceNeg, inR_i64, Int.reduceLE, and_self, ↓z_ops_guard, ↓z_grd, ↓z_dst_s, ↓z_dst_0, ↓z_grdD_b, ↓z_gdf, Nat.mul_one, ↓z_gnf, ↓z_gft, ↓z_pick, ↓z_pick_b, ↓z_gnt, ↓z_gff, ↓constW_bool, ↓z_gtt, ↓z_build, ↓y_ty47, ↓z_blTy_st, ↓y_zr47, ↓z_bld_nil, ↓z_store, ↓y_sz47, ↓z_cl_oag, List.length_cons, List.length_nil, Nat.zero_add, Nat.reduceAdd, ↓z_store_ptr, ↓lkoW_cons, Nat.reduceLeDiff, ↓spsW_cons, ↓drW_cons, Nat.reduceSub, ↓drW_nil, ↓z_cat_nil_r, ↓z_so_cons, ↓z_put_none, ↓z_ret, ↓z_seq_rt, ↓z_blk_rt, ↓z_lp_rt, ↓z_end_rt, resLW, res1W, Bool.not_false, ↓z_agTy_st, ↓z_coeL_cons, ↓z_coeL_nil, ↓z_pack1, ↓loadW_ptr, ↓z_rd_t, ↓z_sub_c, ↓z_sub_nil, ↓z_coe_oag, ↓z_coeC_cons, ↓z_coeS_int, ↓z_coeS_bool, ↓z_coeC_nil, true_and, ↓z_bn_gtr, ↓z_callv, ↓evW_func, ↓z_fun0, ↓z_coe_sl, ↓z_coe_int, z_ite, ↓z_exit, ↓z_seq_ext, ↓z_lp_ext, ↓z_blk_ext, ↓z_bld_cons, ↓y_fl47x0, ↓z_cl_int, ↓catW_cons, ↓catW_nil, ↓y_fl47x1, ↓y_sz4, ↓z_cl_bool]); (try simp only [Int.toNat_natCast])
  refine ⟨fun h2 => ⟨by omega, h2, by omega, fun h3 => ⟨by kernel_rfl, agR_none ?_⟩, fun h3 => ⟨by omega, by omega, by omega, fun h4 => ⟨by kernel_rfl, agR_none ?_⟩, fun h4 => ⟨by omega, by omega, by omega, ?_⟩⟩⟩, fun h2 => ⟨by kernel_rfl, agR_some ?_⟩⟩
  · rw [hP1, agO_cons (by omega), if_pos (.inl h3)]
  · rw [hP1, agO_cons (by omega), if_pos (.inr h4)]
  · have hM := many_spec c d k w[k] (by omega)
    have hO : agP c d w = match agI (ysA c d k) w[k] with
      | none => none
      | some y => agO c d (w.drop (k + 1)) (k + 1) (if y < 0 then f + 1 else f) := by
      rw [hP1, agO_cons (by omega), if_neg (by omega)]
      rfl
    have hf := fn_byteAt G c d w[k] k (by omega) (fun j hj => by have := hA j hj (by omega); omega) (fun j hj => by have := hA j (by omega) hj; omega)
    refine call_fnL (d := .int .i64 (manyA c d k w[k] 256)) (by simp only [Nat.mul_one]; exact hf) (by trivial) fun _ => ?_
    (simp -dsimp only [↓z_put, Nat.reduceLT, ↓z_ops_plain, ↓z_assign, ↓evW_tmp, ↓lkW_cons, ↓reduceIte, ↓z_ops_nil, ↓z_seq_nrm, ↓z_seq, ↓z_region, ↓z_move, ↓z_binOp, ↓evW_const, ↓constW_int, inR_i64, Int.reduceNeg, Int.reduceLE, and_self, ↓z_bn_eql, ↓z_cond, ↓z_cnd, ↓z_gdt, ↓z_build, ↓y_ty47, ↓z_blTy_st, ↓y_zr47, ↓z_bld_nil, ↓z_store, Nat.reduceEqDiff, ↓y_sz47, ↓z_cl_oag, List.length_cons, List.length_nil, Nat.zero_add, Nat.reduceAdd, ↓z_store_ptr, ↓lkoW_cons, Nat.reduceLeDiff, ↓spsW_cons, ↓drW_cons, reduceCtorEq, Nat.reduceSub, ↓drW_nil, ↓z_cat_nil_r, ↓z_so_cons, ↓z_put_none, ↓z_ret, ↓z_seq_rt, ↓z_blk_rt, ↓z_lp_rt, ↓z_end_rt, resLW, res1W, Nat.mul_one, ↓z_agTy_st, ↓z_coeL_cons, ↓z_coeL_nil, ↓z_pack1, ↓loadW_ptr, ↓z_rd_t, ↓z_sub_c, ↓z_sub_nil, ↓z_coe_oag, ↓z_coeC_cons, ↓z_coeS_int, ↓z_coeS_bool, ↓z_coeC_nil, true_and, ↓z_skip, ↓z_bn_add, ↓wrW_i64, ↓z_blk_nrm, ↓z_lp_nrm, ↓z_wk, ↓z_wkE_cons, D.int.injEq, ↓z_wkE_nil, and_true, ↓z_wkO_cons, ↓z_wkO_nil, z_ite]); (try simp only [Int.toNat_natCast, Nat.mul_one, Bool.or_false, Bool.false_or, Bool.or_self, Bool.or_true])
    cases hI : agI (ysA c d k) w[k] with
    | none =>
      rw [hI] at hM hO
      refine ⟨fun _ => ⟨by kernel_rfl, agR_none hO⟩, fun h5 => absurd hM (by simp only; omega)⟩
    | some y =>
      rw [hI] at hM hO
      have hM1 := hM.1
      have hM2 := hM.2
      refine ⟨fun h5 => absurd h5 (by omega), fun h5 => ⟨fun h6 => ⟨by omega, by omega, (k + 1, f + 1), ⟨by simp only; omega, by simp only; omega, by simp only; omega, ?_⟩, by simp only; omega, rfl, rfl⟩, fun h6 => ⟨by omega, (k + 1, f), ⟨by simp only; omega, by simp only; omega, by simp only; omega, ?_⟩, by simp only; omega, rfl, rfl⟩⟩⟩
      · rw [hO]; simp only; rw [if_pos (hM2.1 (by omega))]
      · rw [hO]; simp only; rw [if_neg (fun e => h6 (by have := hM2.2 e; omega))]
  · rw [hP1, List.drop_eq_nil_of_le (by omega)]; rfl
end Go.Abs

