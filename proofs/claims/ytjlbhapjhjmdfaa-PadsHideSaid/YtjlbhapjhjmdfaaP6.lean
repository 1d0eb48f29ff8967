/-
  PAD, sixth walks: agreement.
-/
import Derived.Test.YtjlbhapjhjmdfaaP5
namespace Go.Abs
open Go.Proofs

abbrev xorN (a b : UInt8) : Int := ((a ^^^ b).toNat : Int)
/-- The bytes that position k's pad must have. -/
def ysA (c d : List (List UInt8)) (k : Nat) : List Int := List.zipWith (fun s t => ((s.getD k 0 ^^^ t.getD k 0).toNat : Int)) c d
def agI : List Int → Int → Option Int
  | [], x => some x
  | y :: ys, x => if 0 ≤ x ∧ x ≠ y then none else agI ys y
def agO (c d : List (List UInt8)) : List Int → Nat → Int → Option Int
  | [], _, f => some f
  | x :: w, k, f => if x < -1 ∨ 255 < x then none else match agI (ysA c d k) x with
    | none => none
    | some y => agO c d w (k + 1) (if y < 0 then f + 1 else f)
def lenA (c d : List (List UInt8)) (n : Nat) : Bool := c.all (fun s => decide (s.length = n)) && d.all (fun s => decide (s.length = n))
def agP (c d : List (List UInt8)) (w : List Int) : Option Int := if c.length = d.length ∧ lenA c d w.length then agO c d w 0 0 else none
def agD (c d : List (List UInt8)) (w : List Int) : D := match agP c d w with
  | none => .tup [.int .i64 0, .bool false]
  | some f => .tup [.int .i64 f, .bool true]

theorem agD_none {c d : List (List UInt8)} {w : List Int} (h : agP c d w = none) : D.tup [.int .i64 0, .bool false] = agD c d w := by unfold agD; rw [h]
theorem agD_some {c d : List (List UInt8)} {w : List Int} {f : Int} (h : agP c d w = some f) : D.tup [.int .i64 f, .bool true] = agD c d w := by unfold agD; rw [h]
theorem agP_ne {c d : List (List UInt8)} {w : List Int} (h : ¬ (c.length : Int) = d.length) : agP c d w = none := by unfold agP; rw [if_neg (fun e => h (by omega))]
theorem agP_len {c d : List (List UInt8)} {w : List Int} (i : Nat) (hi : i < c.length) (hj : i < d.length) (h : ¬ (c[i].length : Int) = w.length ∨ ¬ (d[i].length : Int) = w.length) : agP c d w = none := by
  unfold agP
  rw [if_neg]
  rintro ⟨_, e⟩
  unfold lenA at e
  rw [Bool.and_eq_true, List.all_eq_true, List.all_eq_true] at e
  have e1 := of_decide_eq_true (e.1 c[i] (List.getElem_mem _))
  have e2 := of_decide_eq_true (e.2 d[i] (List.getElem_mem _))
  omega
theorem lenA_of {c d : List (List UInt8)} {n : Nat} (hl : c.length = d.length) (h : ∀ (j : Nat) (hx : j < c.length) (hy : j < d.length), c[j].length = n ∧ d[j].length = n) : lenA c d n = true := by
  unfold lenA
  rw [Bool.and_eq_true, List.all_eq_true, List.all_eq_true]
  constructor
  all_goals
    intro p hp
    obtain ⟨j, hj, rfl⟩ := List.getElem_of_mem hp
    have := h j (by omega) (by omega)
    exact decide_eq_true (by first | exact this.1 | exact this.2)
theorem agP_go {c d : List (List UInt8)} {w : List Int} (hl : c.length = d.length) (h : ∀ (j : Nat) (hx : j < c.length) (hy : j < d.length), c[j].length = w.length ∧ d[j].length = w.length) : agP c d w = agO c d w 0 0 := by
  unfold agP; rw [if_pos ⟨hl, lenA_of hl h⟩]
theorem agO_cons {c d : List (List UInt8)} {w : List Int} {k : Nat} {f : Int} (h : k < w.length) : agO c d (w.drop k) k f = if w[k] < -1 ∨ 255 < w[k] then none else match agI (ysA c d k) w[k] with
    | none => none
    | some y => agO c d (w.drop (k + 1)) (k + 1) (if y < 0 then f + 1 else f) := by
  rw [List.drop_eq_getElem_cons h]; rfl
theorem ysA_length (c d : List (List UInt8)) (k : Nat) (hl : c.length = d.length) : (ysA c d k).length = c.length := by unfold ysA; rw [List.length_zipWith]; omega
theorem ysA_get {c d : List (List UInt8)} {k i : Nat} (hi : i < c.length) (hj : i < d.length) (h : i < (ysA c d k).length) : (ysA c d k)[i] = ((c[i].getD k 0 ^^^ d[i].getD k 0).toNat : Int) := by
  simp only [ysA, List.getElem_zipWith]
theorem agI_cons {c d : List (List UInt8)} {k i : Nat} {x : Int} (hi : i < c.length) (hj : i < d.length) (hk : k < c[i].length) (hk' : k < d[i].length) : agI ((ysA c d k).drop i) x = if 0 ≤ x ∧ x ≠ ((c[i][k] ^^^ d[i][k]).toNat : Int) then none else agI ((ysA c d k).drop (i + 1)) ((c[i][k] ^^^ d[i][k]).toNat : Int) := by
  have h : i < (ysA c d k).length := by unfold ysA; rw [List.length_zipWith]; omega
  rw [List.drop_eq_getElem_cons h, ysA_get hi hj h]
  simp only [List.getD_eq_getElem?_getD, List.getElem?_eq_getElem hk, List.getElem?_eq_getElem hk', Option.getD_some]
  rfl
theorem agI_end {c d : List (List UInt8)} {k i : Nat} {x : Int} (hl : c.length = d.length) (hi : c.length ≤ i) : agI ((ysA c d k).drop i) x = some x := by
  rw [List.drop_eq_nil_of_le (by rw [ysA_length c d k hl]; exact hi)]; rfl

set_option maxRecDepth 100000 in
set_option maxHeartbeats 8000000 in
theorem fn_Agree (G : Glob) (c d : List (List UInt8)) (w : List Int) : Fn G Try.prog 19 [.sl 1 c.length (c.map D.str), .sl 1 d.length (d.map D.str), .sl 1 w.length (w.map (D.int .i64))] (agD c d w) := by
  refine Fn.mk (c := _) Try.func19 rfl rfl Try.ntmps19 Try.results19 ?_
  (simp -dsimp only [bodyW, List.length_cons, List.length_nil, Nat.zero_add, Nat.reduceAdd, Nat.reduceLeDiff, wfL, ↓z_seq, ↓z_region, ↓z_ops_plain, ↓z_assign, ↓evW_const, ↓constW_int, inR_i64, Int.reduceNeg, Int.reduceLE, and_self, ↓z_put, Nat.reduceLT, ↓constW_bool, ↓z_ops_nil, ↓z_seq_nrm, ↓z_scope, ↓z_move, ↓evW_tmp, ↓lkW_cons, reduceCtorEq, ↓reduceIte, ↓z_lk_env, ↓z_callb, ↓z_evL_cons, ↓z_evL_nil, ↓z_len, ↓y_ty22, ↓z_ln_sl, Nat.reduceEqDiff, ↓z_binOp, ↓z_bn_neq, ↓z_cond, ↓z_cnd, ↓z_gdt, ne_eq, ↓z_ret, ↓z_seq_rt, ↓z_end_rt, resLW, res1W, ↓z_coeL_cons, ↓z_coeL_nil, ↓z_pack2, ↓z_coe_bool, ↓z_coe_int, true_and, ↓z_skip, ↓z_block, ↓z_loop, z_ite, Classical.not_not])
  intro hd1 hd2 hd3
  have hc : c.length ≤ 9223372036854775807 := hd1.1.1
  have hd : d.length ≤ 9223372036854775807 := hd2.1.1
  have hw : w.length ≤ 9223372036854775807 := hd3.1.1
  refine ⟨fun h => agD_none (agP_ne h), fun h => ?_⟩
  refine hold_intro ⟨[], Nat, fun i => ⟨93, 0, [(24, .int .i64 i), (23, .int .i64 c.length), (22, .sl 1 c.length (c.map D.str)), (0, .sl 1 c.length (c.map D.str)), (1, .sl 1 d.length (d.map D.str)), (2, .sl 1 w.length (w.map (D.int .i64)))], []⟩, fun i => i ≤ c.length ∧ ∀ (j : Nat) (hj : j < i) (hx : j < c.length) (hy : j < d.length), c[j].length = w.length ∧ d[j].length = w.length, fun i => c.length - i, ?_, ?_⟩
  · (simp -dsimp only [↓z_ad_nil, ↓z_wk, ↓z_wkE_cons, ↓lkW_cons, ↓reduceIte, D.int.injEq, true_and, Nat.reduceEqDiff, reduceCtorEq, ↓z_lk_env, Nat.zero_add, Nat.reduceAdd, ↓z_wkE_nil, and_self, and_true, ↓z_wkO_nil]); (try simp only [Int.toNat_natCast, Nat.mul_one, Bool.or_false, Bool.false_or, Bool.or_self, Bool.or_true])
    exact ⟨0, by simp⟩
  rintro i ⟨hi, ha⟩
  (simp -dsimp only [↓z_seq, ↓z_region, ↓z_ops_plain, ↓z_binOp, ↓evW_tmp, ↓lkW_cons, ↓reduceIte, Nat.reduceEqDiff, ↓z_bn_lss, ↓z_put, Nat.reduceLT, ↓z_ops_nil, ↓z_seq_nrm, ↓z_cond, ↓z_cnd, ↓z_gdt, ↓z_skip, ↓z_block, ↓z_move, ↓z_indexAddr, ↓y_ty22, ↓z_elTy_sl, ↓y_sz9, ↓z_ix_sl, ↓z_load, ↓y_ty9, ↓z_agTy_str, ↓loadW_rop, ↓z_rd_f, ↓z_nth_str, ↓z_assign, ↓z_callb, ↓z_evL_cons, ↓z_evL_nil, ↓z_len, ↓z_ln_str, reduceCtorEq, ↓y_ty43, ↓z_ln_sl, ↓z_bn_neq, ↓z_ops_guard, ↓z_grd, ↓z_dst_s, ↓z_dst_0, ↓z_grdD_b, ↓z_gdf, Nat.mul_one, ne_eq, ↓z_gnf, ↓z_gft, ↓z_pick, ↓z_pick_b, ↓z_gnt, ↓z_gff, ↓evW_const, ↓constW_bool, ↓z_gtt, ↓constW_int, inR_i64, Int.reduceNeg, Int.reduceLE, and_self, ↓z_ret, ↓z_blk_rt, ↓z_seq_rt, ↓z_lp_rt, ↓z_end_rt, resLW, res1W, Bool.not_false, ↓z_coeL_cons, ↓z_coeL_nil, ↓z_pack2, ↓z_coe_bool, ↓z_coe_int, true_and, ↓z_blk_nrm, ↓z_bn_add, ↓wrW_i64, ↓z_lp_nrm, ↓z_wk, ↓z_wkE_cons, D.int.injEq, ↓z_wkE_nil, and_true, ↓z_wkO_nil, z_ite, Classical.not_not, ↓z_exit, ↓z_seq_ext, ↓z_lp_ext, ↓z_blk_ext, ↓z_label, ↓z_loop]); (try simp only [Int.toNat_natCast])
  refine ⟨fun h1 => ⟨by omega, h1, by omega, ?_⟩, fun h1 => ?_⟩
  · refine ⟨fun h2 => agD_none (agP_len i (by omega) (by omega) (.inl h2)), fun h2 => ⟨by omega, by omega, by omega, fun h3 => agD_none (agP_len i (by omega) (by omega) (.inr h3)), fun h3 => ⟨by omega, i + 1, ⟨by omega, ?_⟩, by omega, rfl⟩⟩⟩
    intro j hj hx hy
    by_cases e : j = i
    · subst e; exact ⟨by omega, by omega⟩
    · exact ha j (by omega) hx hy
  have hA : ∀ (j : Nat) (hx : j < c.length) (hy : j < d.length), c[j].length = w.length ∧ d[j].length = w.length := fun j hx hy => ha j (by omega) hx hy
  refine hold_intro ⟨[], Nat × Int, fun p => ⟨93, 0, [(47, .int .i64 p.1), (46, .int .i64 w.length), (45, .sl 1 w.length (w.map (D.int .i64))), (11, .bool true), (10, .int .i64 p.2), (0, .sl 1 c.length (c.map D.str)), (1, .sl 1 d.length (d.map D.str)), (2, .sl 1 w.length (w.map (D.int .i64)))], []⟩, fun p => p.1 ≤ w.length ∧ 0 ≤ p.2 ∧ p.2 ≤ p.1 ∧ agP c d w = agO c d (w.drop p.1) p.1 p.2, fun p => w.length - p.1, ?_, ?_⟩
  · (simp -dsimp only [↓z_ad_nil, ↓z_wk, ↓z_wkE_cons, ↓lkW_cons, ↓reduceIte, D.int.injEq, true_and, Nat.reduceEqDiff, reduceCtorEq, ↓z_wkE_nil, and_self, and_true, ↓z_wkO_nil]); (try simp only [Int.toNat_natCast, Nat.mul_one, Bool.or_false, Bool.false_or, Bool.or_self, Bool.or_true])
    exact ⟨(0, 0), ⟨by simp, by simp, by simp, agP_go (by omega) hA⟩, by simp, by simp⟩
  rintro ⟨k, f⟩ ⟨hk, hf0, hfk, hP⟩
  have hk1 : k ≤ w.length := hk
  have hf1 : 0 ≤ f := hf0
  have hf2 : f ≤ k := hfk
  have hP1 : agP c d w = agO c d (w.drop k) k f := hP
  clear hk hf0 hfk hP
  (simp -dsimp only [↓z_seq, ↓z_region, ↓z_ops_plain, ↓z_binOp, ↓evW_tmp, ↓lkW_cons, ↓reduceIte, Nat.reduceEqDiff, ↓z_bn_lss, ↓z_put, Nat.reduceLT, ↓z_ops_nil, ↓z_seq_nrm, ↓z_cond, ↓z_cnd, ↓z_gdt, ↓z_skip, ↓z_block, ↓z_move, ↓z_indexAddr, ↓y_ty43, ↓z_elTy_sl, ↓y_sz3, ↓z_ix_sl, ↓z_load, ↓y_ty3, ↓z_agTy_int, ↓loadW_rop, ↓z_rd_f, ↓z_nth_int, ↓z_assign, ↓evW_const, ↓constW_int, Int.reduceNeg, inR_i64, Int.reduceLE, and_self, ↓z_ops_guard, ↓z_grd, ↓z_dst_s, ↓z_dst_0, ↓z_grdD_b, ↓z_gdf, Nat.mul_one, ↓z_gnf, ↓z_gft, ↓z_pick, ↓z_pick_b, ↓z_gnt, ↓z_gff, ↓constW_bool, ↓z_gtt, ↓z_exit, ↓z_seq_ext, ↓z_blk_ext, ↓z_lp_ext, ↓z_unOp, ↓z_un_not, ↓z_ret, ↓z_seq_rt, ↓z_end_rt, resLW, res1W, Bool.not_false, ↓z_coeL_cons, ↓z_coeL_nil, ↓z_pack2, ↓z_coe_bool, ↓z_coe_int, true_and, ↓z_bn_gtr, reduceCtorEq, ↓z_callb, ↓z_evL_cons, ↓z_evL_nil, ↓z_len, ↓y_ty22, ↓z_ln_sl, ↓z_loop, z_ite, ↓z_gtf, Bool.not_true]); (try simp only [Int.toNat_natCast])
  refine ⟨fun h2 => ⟨by omega, h2, by omega, fun h3 => agD_none ?_, fun h3 => ⟨fun h4 => agD_none ?_, fun h4 => ?_⟩⟩, fun h2 => agD_some ?_⟩
  · rw [hP1, agO_cons (by omega), if_pos (.inl h3)]
  · rw [hP1, agO_cons (by omega), if_pos (.inr h4)]
  · refine hold_intro ⟨[], Nat × Int, fun p => ⟨93, 0, [(60, .int .i64 p.1), (59, .int .i64 c.length), (58, .sl 1 c.length (c.map D.str)), (13, .int .i64 p.2), (12, .int .i64 k), (47, .int .i64 k), (46, .int .i64 w.length), (45, .sl 1 w.length (w.map (D.int .i64))), (11, .bool true), (10, .int .i64 f), (0, .sl 1 c.length (c.map D.str)), (1, .sl 1 d.length (d.map D.str)), (2, .sl 1 w.length (w.map (D.int .i64)))], []⟩, fun p => p.1 ≤ c.length ∧ agI (ysA c d k) w[k] = agI ((ysA c d k).drop p.1) p.2, fun p => c.length - p.1, ?_, ?_⟩
    · (simp -dsimp only [↓z_ad_nil, ↓z_wk, ↓z_wkE_cons, ↓lkW_cons, ↓reduceIte, D.int.injEq, true_and, Nat.reduceEqDiff, Nat.mul_one, reduceCtorEq, ↓z_wkE_nil, and_self, and_true, ↓z_wkO_nil]); (try simp only [Int.toNat_natCast, Nat.mul_one, Bool.or_false, Bool.false_or, Bool.or_self, Bool.or_true])
      exact ⟨(0, w[k]), ⟨by simp, by simp⟩, by simp, by simp⟩
    rintro ⟨j, x⟩ ⟨hj, hI⟩
    have hj1 : j ≤ c.length := hj
    have hI1 : agI (ysA c d k) w[k] = agI ((ysA c d k).drop j) x := hI
    clear hj hI
    have hO : agP c d w = match agI (ysA c d k) w[k] with
      | none => none
      | some y => agO c d (w.drop (k + 1)) (k + 1) (if y < 0 then f + 1 else f) := by
      rw [hP1, agO_cons (by omega), if_neg (by omega)]
    (simp -dsimp only [↓z_seq, ↓z_region, ↓z_ops_plain, ↓z_binOp, ↓evW_tmp, ↓lkW_cons, ↓reduceIte, Nat.reduceEqDiff, ↓z_bn_lss, ↓z_put, Nat.reduceLT, ↓z_ops_nil, ↓z_seq_nrm, ↓z_cond, ↓z_cnd, ↓z_gdt, ↓z_skip, ↓z_block, ↓z_move, ↓z_indexAddr, ↓y_ty22, ↓z_elTy_sl, ↓y_sz9, ↓z_ix_sl, ↓z_load, ↓y_ty9, ↓z_agTy_str, ↓loadW_rop, ↓z_rd_f, ↓z_nth_str, ↓z_assign, ↓z_region_d, ↓y_mix, true_and, Nat.mul_one, ↓z_exit, ↓z_seq_ext, ↓z_lp_ext, ↓z_blk_ext, ↓evW_const, ↓constW_int, inR_i64, Int.reduceNeg, Int.reduceLE, and_self, ↓z_bn_add, ↓wrW_i64, ↓z_blk_nrm, ↓z_lp_nrm, ↓z_wk, ↓z_wkE_cons, D.int.injEq, reduceCtorEq, ↓z_wkE_nil, and_true, ↓z_wkO_nil, z_ite]); (try simp only [Int.toNat_natCast])
    refine ⟨fun h5 => ⟨by omega, h5, by omega, rgn_d (by decide +kernel) ?_⟩, fun h5 => ?_⟩
    · (simp -dsimp only [↓z_drw_move, ↓z_drwS, ↓z_grd_none, ↓z_withE, ↓z_rd_tmp, ↓lkW_cons, ↓reduceIte, ↓z_rd_nil, ↓z_ap_cons, ↓z_ap_nil, ↓z_move, ↓evW_tmp, Nat.mul_one, and_true, ↓z_exD_all, ↓z_exD_eq, ↓z_put, Nat.reduceLT, ↓z_drwK, Nat.reduceEqDiff, ↓z_drw_index, ↓z_index, ↓y_ty9, ↓z_in_str, ↓z_inx_str, ↓z_exD_and, ↓z_exD_ex, reduceCtorEq, ↓z_drw_indexAddr, ↓z_indexAddr, ↓y_ty22, ↓z_elTy_sl, ↓y_sz9, ↓z_ix_sl, true_and, ↓z_drw_load, ↓z_load, ↓z_agTy_str, ↓loadW_rop, ↓z_rd_f, ↓z_nth_str, ↓z_drw_binOp, ↓z_binOp, ↓z_bn_xor, ↓z_drw_convert, ↓z_convert, ↓y_ty5, ↓y_ty3, ↓z_cvt_int, ↓z_cv_int, ↓z_cvi_u8_i64, ↓z_drw_assign, ↓z_assign, ↓z_drw_nil, ↓z_seq_nrm, ↓z_seq, ↓z_region, ↓z_ops_plain, ↓evW_const, ↓constW_int, inR_i64, Int.reduceNeg, Int.reduceLE, and_self, ↓z_bn_geq, ↓z_ops_guard, ↓z_grd, ↓z_dst_s, ↓z_dst_0, ↓z_grdD_b, ↓z_gdt, ↓z_gtt, ↓z_bn_neq, ↓z_pick, ↓z_pick_b, ↓z_ops_nil, ↓z_cond, ↓z_cnd, ne_eq, ↓constW_bool, ↓z_exit, ↓z_seq_ext, ↓z_blk_ext, ↓z_lp_ext, ↓z_unOp, ↓z_un_not, ↓z_gnt, ↓z_gff, ↓z_ret, ↓z_seq_rt, ↓z_end_rt, resLW, res1W, Bool.not_false, ↓z_coeL_cons, ↓z_coeL_nil, ↓z_pack2, ↓z_coe_bool, ↓z_coe_int, ↓z_skip, ↓z_blk_nrm, ↓z_bn_add, ↓wrW_i64, ↓z_lp_nrm, ↓z_wk, ↓z_wkE_cons, D.int.injEq, ↓z_wkE_nil, ↓z_wkO_nil, z_ite, Classical.not_not, ↓z_gtf, ↓z_gft]); (try simp only [Int.toNat_natCast])
      have hl := hA j (by omega) (by omega)
      have hI2 := agI_cons (c := c) (d := d) (k := k) (i := j) (x := x) (by omega) (by omega) (by omega) (by omega)
      refine ⟨by omega, by omega, by omega, by omega, by omega, by omega, by omega, ?_⟩
      rw [xorB]
      refine ⟨fun h6 => ⟨fun h7 => agD_none ?_, fun h7 => ⟨by omega, (j + 1, _), ⟨by simp only; omega, ?_⟩, by simp only; omega, rfl, rfl⟩⟩, fun h6 => ⟨by omega, (j + 1, _), ⟨by simp only; omega, ?_⟩, by simp only; omega, rfl, rfl⟩⟩
      · rw [hO, hI1, hI2, if_pos ⟨h6, h7⟩]
      · rw [hI1, hI2, if_neg (fun e => e.2 h7)]
      · rw [hI1, hI2, if_neg (fun e => h6 e.1)]
    · rw [hI1, agI_end (by omega) (by omega)] at hO
      refine ⟨fun h6 => ⟨by omega, by omega, (k + 1, f + 1), ⟨by simp only; omega, by simp only; omega, by simp only; omega, ?_⟩, by simp only; omega, rfl, rfl⟩, fun h6 => ⟨by omega, (k + 1, f), ⟨by simp only; omega, by simp only; omega, by simp only; omega, ?_⟩, by simp only; omega, rfl, rfl⟩⟩
      · rw [hO]; simp only; rw [if_pos h6]
      · rw [hO]; simp only; rw [if_neg h6]
  · rw [hP1, List.drop_eq_nil_of_le (by omega)]; rfl
end Go.Abs

