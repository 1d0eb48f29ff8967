/-
  PAD, eleventh walk: a pad is used once.
-/
import Derived.Test.YtjlbhapjhjmdfaaP10
namespace Go.Abs
open Go.Proofs

/-- A use: of which house, of which number, of which string; or, if the last is true, the pad is spent. -/
abbrev OpA := Int × Int × List UInt8 × Bool
def opC (o : OpA) : List D := [.int .i64 o.1, .int .i64 o.2.1, .str o.2.2.1, .bool o.2.2.2]
theorem nmC_bool (id : Nat) (z : List Bool) : nmC id (z.map D.bool) := fun c hc => by
  obtain ⟨_, _, rfl⟩ := List.mem_map.1 hc; rfl
theorem set_bool {z : List Bool} {k : Nat} {b : Bool} (hk : k < z.length) : (z.map D.bool).take k ++ [D.bool b] ++ (z.map D.bool).drop (k + 1) = (z.set k b).map D.bool := by
  rw [← List.map_take, ← List.map_drop, List.set_eq_take_append_cons_drop, if_pos hk]; simp
theorem chk_erase {l r : Int} {x y : List (List UInt8)} {z : List Bool} (h : chk l r x = 0) (hl : y.length = x.length) (hA : ∀ (j : Nat) (h : j < x.length) (h' : j < y.length), y[j] = if z.getD j false = true then [] else x[j]) : chk l r y = 0 := by
  have h1 := chk_of h
  have h2 := chk0 h
  have h3 := chk0' h
  unfold chk
  rw [if_neg h1, if_neg]
  rintro (h | ⟨p, hp, hlt⟩)
  · omega
  · obtain ⟨j, hj, rfl⟩ := List.getElem_of_mem hp
    rw [hA j (by omega) hj] at hlt
    split at hlt
    · simp at hlt
    · have := h3 _ (List.getElem_mem (by omega : j < x.length)); omega
theorem use_out {G : Glob} {l r : Int} {y : List (List UInt8)} {f n : Int} {t : List UInt8} (m : Nat) (hm : y.length = m) (h : chk l r y = 0) (hn : ¬ (0 ≤ n ∧ n < m)) : Fn G Try.prog 10 [.agg [.int .i64 l, .int .i64 r, .sl 1 m (y.map D.str)], .int .i64 f, .int .i64 n, .str t] (.tup [.str [], .agg [.int .i64 0, .int .i64 0, .nils], .int .i64 1]) := by
  have e : useE l r y f n t = 1 := by unfold useE; rw [if_neg (by omega), if_pos (by omega)]
  subst hm
  exact (fn_Use G l r y f n t).out (by rw [useD_no (by omega), e])
theorem spend_out {G : Glob} {l r : Int} {y : List (List UInt8)} {n : Int} (m : Nat) (hm : y.length = m) (h : chk l r y = 0) (hn : ¬ (0 ≤ n ∧ n < m)) : Fn G Try.prog 11 [.agg [.int .i64 l, .int .i64 r, .sl 1 m (y.map D.str)], .int .i64 n] (.tup [.agg [.int .i64 0, .int .i64 0, .nils], .int .i64 1]) := by
  have e : spendE l r y n = 1 := by unfold spendE; rw [if_neg (by omega), if_pos (by omega)]
  subst hm
  exact (fn_Spend G l r y n).out (by rw [spendD_no (by omega), e])
theorem spend_in {G : Glob} {l r : Int} {y : List (List UInt8)} {k : Nat} (m : Nat) (hm : y.length = m) (h : chk l r y = 0) (hn : k < m) : Fn G Try.prog 11 [.agg [.int .i64 l, .int .i64 r, .sl 1 m (y.map D.str)], .int .i64 k] (.tup [.agg [.int .i64 l, .int .i64 r, .sl 1 m ((y.set k []).map D.str)], .int .i64 0]) := by
  subst hm
  exact (fn_Spend_ok G l r y k h (by omega) (by omega)).out (by rw [Int.toNat_natCast, List.length_set])
theorem erase_step {x y : List (List UInt8)} {z : List Bool} {k : Nat} (hk : k < z.length) (hA : ∀ (j : Nat) (h : j < x.length) (h' : j < y.length), y[j] = if z.getD j false = true then [] else x[j]) : ∀ (j : Nat) (h : j < x.length) (h' : j < (y.set k []).length), (y.set k [])[j] = if (z.set k true).getD j false = true then [] else x[j] := by
  intro j h h'
  rw [List.getElem_set]
  by_cases e : k = j
  · subst e; rw [if_pos rfl, if_pos (by simp [List.getD_eq_getElem?_getD, hk])]
  · rw [if_neg e, hA j h (by simpa using h')]
    have : (z.set k true).getD j false = z.getD j false := by simp [List.getD_eq_getElem?_getD, e]
    rw [this]
theorem useE_inv {l r : Int} {y : List (List UInt8)} {f : Int} {k : Nat} {t : List UInt8} (hk : k < y.length) (h : useE l r y f k t = 0) : (f = l ∨ f = r) ∧ decide (f = l) = decide ((k : Int).tmod 2 = 0) ∧ y[k] ≠ [] ∧ t.length ≤ y[k].length := by
  have e : y.getD (k : Int).toNat [] = y[k] := by simp [List.getD_eq_getElem?_getD, hk]
  unfold useE at h
  rw [e] at h
  split at h
  · contradiction
  split at h
  · cases h
  split at h
  · cases h
  split at h
  · cases h
  split at h
  · cases h
  rename_i h1 h2 h3 h4 h5
  refine ⟨?_, by simpa using h3, h4, by omega⟩
  exact Classical.not_not.1 fun h => h2 (.inl h)
theorem useE_stale {l r : Int} {y : List (List UInt8)} {f : Int} {k : Nat} {t : List UInt8} (hk : k < y.length) (hc : chk l r y = 0) (h : useE l r y f k t = 15) : y[k] = [] := by
  have e : y.getD (k : Int).toNat [] = y[k] := by simp [List.getD_eq_getElem?_getD, hk]
  unfold useE at h
  rw [e] at h
  split at h
  · contradiction
  split at h
  · cases h
  split at h
  · cases h
  split at h
  · assumption
  split at h <;> cases h
theorem use_in {G : Glob} {l r : Int} {y : List (List UInt8)} {f : Int} {k : Nat} {t : List UInt8} (m : Nat) (hm : y.length = m) (hk : k < y.length) (h : useE l r y f k t = 0) : Fn G Try.prog 10 [.agg [.int .i64 l, .int .i64 r, .sl 1 m (y.map D.str)], .int .i64 f, .int .i64 k, .str t] (.tup [.str (sumB t (y[k].take t.length)), .agg [.int .i64 l, .int .i64 r, .sl 1 m ((y.set k []).map D.str)], .int .i64 0]) := by
  have e : y.getD (k : Int).toNat [] = y[k] := by simp [List.getD_eq_getElem?_getD, hk]
  subst hm
  exact (fn_Use G l r y f k t).out (by rw [useD_yes h, e, Int.toNat_natCast, List.length_set])
theorem use_err {G : Glob} {l r : Int} {y : List (List UInt8)} {f n : Int} {t : List UInt8} (m : Nat) (hm : y.length = m) (h : useE l r y f n t ≠ 0) : Fn G Try.prog 10 [.agg [.int .i64 l, .int .i64 r, .sl 1 m (y.map D.str)], .int .i64 f, .int .i64 n, .str t] (.tup [.str [], .agg [.int .i64 0, .int .i64 0, .nils], .int .i64 (useE l r y f n t)]) := by
  subst hm
  exact (fn_Use G l r y f n t).out (useD_no h)
/-- Covered twice with the same pad: uncovered. -/
theorem sum_back {t p : List UInt8} (h : p.length = t.length) : sumB (sumB t p) p = t := by
  refine atB_ext (by simp only [sumB_len]; omega) fun j => ?_
  rw [atB_sum, atB_sum, UInt8.xor_assoc, UInt8.xor_self, UInt8.xor_zero]
theorem opC_at {a : List OpA} {i : Nat} (h : i < a.length) : (List.flatMap opC a).length = a.length * 4 ∧ (((List.flatMap opC a).drop (i * 4)).take 4 = [.int .i64 a[i].1, .int .i64 a[i].2.1, .str a[i].2.2.1, .bool a[i].2.2.2]) := by
  induction a generalizing i with
  | nil => simp at h
  | cons o r ih =>
    have hl : ∀ b : List OpA, (List.flatMap opC b).length = b.length * 4 := by
      intro b
      induction b with
      | nil => rfl
      | cons o r ih => simp only [List.flatMap_cons, List.length_append, ih, List.length_cons]; simp [opC]; omega
    refine ⟨hl _, ?_⟩
    cases i with
    | zero => simp [List.flatMap_cons, opC]
    | succ i =>
      have := (ih (i := i) (by simpa using h)).2
      rw [List.flatMap_cons, List.drop_append]
      have e : (opC o).length = 4 := rfl
      rw [e, List.drop_eq_nil_of_le (by rw [e]; omega), List.nil_append, show (i + 1) * 4 - 4 = i * 4 by omega]
      simpa using this
set_option maxRecDepth 100000 in
set_option maxHeartbeats 8000000 in
theorem fn_law6 (G : Glob) (l r : Int) (x : List (List UInt8)) (a : List OpA) : Fn G Try.prog 6 [.agg [.int .i64 l, .int .i64 r, .sl 1 x.length (x.map D.str)], .sl 4 a.length (List.flatMap opC a)] (.bool true) := by
  refine Fn.mk (c := _) Try.func6 rfl rfl Try.ntmps6 Try.results6 ?_
  (simp -dsimp only [bodyW, List.length_cons, List.length_nil, Nat.zero_add, Nat.reduceAdd, Nat.reduceLeDiff, wfL, ↓z_seq, ↓z_region, ↓z_ops_plain, ↓z_box, ↓evW_tmp, ↓z_lk_env, ↓reduceIte, ↓z_cl_agg, ↓z_nmC_cons, ↓z_mn'_int, ↓z_mn'_sl, ↓z_nmC_nil, and_self, ↓z_new, ↓z_nm_nil, Nat.reduceLT, ↓z_pg_env, ↓z_mn_agg, ↓z_mn_sl, ↓z_pg_env0, ↓z_put, ↓z_assign, ↓evW_const, ↓constW_bool, ↓z_ops_nil, ↓z_seq_nrm, ↓z_fieldAddr, ↓lkW_cons, Nat.reduceEqDiff, ↓y_fl24x2, ↓y_sz22, ne_eq, reduceCtorEq, not_false_eq_true, ↓z_fa_ptr, ↓z_load, ↓y_ty22, ↓z_agTy_sl, ↓loadW_ptr, ↓lkoW_cons, ↓z_rd_f, ↓nthW_cons, Nat.reduceSub, ↓z_callb, ↓z_evL_cons, ↓z_evL_nil, ↓z_len, ↓z_ln_sl, ↓z_binOp, ↓constW_int, inR_i64, Int.reduceNeg, Int.reduceLE, ↓z_bn_gtr, ↓z_move, ↓z_ops_guard, ↓z_grd, ↓z_dst_s, ↓z_dst_0, ↓z_grdD_b, ↓z_gdf, ↓z_gnf, ↓z_gft, ↓z_pick, ↓z_pick_b, ↓z_gnt, ↓z_gff, ↓z_gtf, ↓z_cond, ↓z_cnd, ↓z_gtt, ↓z_callv, ↓evW_func, ↓z_fun0, ↓z_coeL_nil, true_and, ↓y_ty51, ↓y_ty24, ↓y_sz24, ↓z_agTy_st, ↓z_rd_t, ↓z_sub_c, ↓z_sub_nil, ↓z_coeL_cons, ↓z_coe_oag, ↓z_coeC_cons, ↓z_coeS_int, ↓z_coeS_sl, ↓z_coeC_nil, z_ite])
  intro hd ha
  have hx : x.length ≤ 9223372036854775807 := (hd.2 (.sl 1 x.length (x.map D.str)) (by simp)).1.1
  refine ⟨fun _ => call_fn (fn_sanity G) fun _ => (by (simp -dsimp only [↓z_put, Nat.reduceLT, ↓z_ops_plain, ↓z_assign, ↓evW_tmp, ↓lkW_cons, ↓reduceIte, ↓z_ops_nil, ↓z_seq_nrm, ↓z_ret, ↓z_seq_rt, ↓z_end_rt, resLW, res1W, Bool.not_false, Nat.zero_add, ↓z_coeL_cons, ↓z_coeL_nil, ↓z_pack1, ↓z_coe_bool, and_self]); (try simp only [Int.toNat_natCast, Nat.mul_one, Bool.or_false, Bool.false_or, Bool.or_self, Bool.or_true])), fun h1 => ⟨fun _ => call_fn (fn_sanity G) fun _ => (by (simp -dsimp only [↓z_put, Nat.reduceLT, ↓z_ops_plain, ↓z_assign, ↓evW_tmp, ↓lkW_cons, ↓reduceIte, ↓z_ops_nil, ↓z_seq_nrm, ↓z_ret, ↓z_seq_rt, ↓z_end_rt, resLW, res1W, Bool.not_false, Nat.zero_add, ↓z_coeL_cons, ↓z_coeL_nil, ↓z_pack1, ↓z_coe_bool, and_self]); (try simp only [Int.toNat_natCast, Nat.mul_one, Bool.or_false, Bool.false_or, Bool.or_self, Bool.or_true])), fun h2 => ?_⟩⟩
  refine call_fn (fn_Check G l r x) fun _ => ?_
  (simp -dsimp only [↓z_put, Nat.reduceLT, ↓z_ops_guard, ↓z_grd, ↓z_dst_s, ↓z_dst_0, ↓lkW_cons, Nat.reduceEqDiff, ↓reduceIte, ↓z_grdD_b, ↓z_gff, ↓z_binOp, ↓evW_tmp, ↓evW_const, ↓constW_int, inR_i64, Int.reduceNeg, Int.reduceLE, and_self, ↓z_bn_neq, ↓z_ops_plain, ↓z_pick, ↓z_pick_b, ↓z_gft, ↓z_ops_nil, ↓z_seq_nrm, ↓z_cond, ↓z_cnd, ↓z_gdt, ne_eq, ↓z_seq, ↓z_region, ↓z_callv, ↓evW_func, ↓z_evL_nil, ↓z_fun0, ↓z_coeL_nil, ↓z_skip, ↓z_load, ↓y_ty24, ↓y_sz24, ↓z_agTy_st, ↓loadW_ptr, ↓lkoW_cons, ↓z_rd_t, Nat.zero_add, List.length_cons, List.length_nil, Nat.reduceAdd, Nat.reduceLeDiff, ↓z_sub_c, ↓z_sub_nil, ↓z_alloc, ↓y_zr24, ↓z_new, ↓z_nm_cons, ↓z_nmC_cons, ↓z_mn'_int, ↓z_mn'_sl, ↓z_nmC_nil, ↓z_nm_nil, ↓z_pg_cons, ↓z_mn_oag, ↓z_mnL_int, ↓z_mnL_sl, ↓z_mnL_nil, ↓z_mn_bool, ↓z_mn_int, ↓z_mn_sl, ↓z_mn_ptr, reduceCtorEq, ↓z_mn_agg, ↓z_pg_nil, ↓z_store, ↓z_cl_oag, ↓z_store_ptr, ↓spsW_cons, ↓drW_cons, Nat.reduceSub, ↓drW_nil, ↓z_cat_nil_r, ↓z_so_cons, ↓z_put_none, ↓y_zr52, ↓z_move, ↓z_callb, ↓z_evL_cons, ↓z_len, ↓y_ty51, ↓z_ln_sl, ↓z_block, ↓z_loop, true_and, z_ite, Classical.not_not])
  refine ⟨fun _ => call_fn (fn_sanity G) fun _ => (by (simp -dsimp only [↓z_put, Nat.reduceLT, ↓z_ops_plain, ↓z_assign, ↓evW_tmp, ↓lkW_cons, ↓reduceIte, ↓z_ops_nil, ↓z_seq_nrm, ↓z_ret, ↓z_seq_rt, ↓z_end_rt, resLW, res1W, ne_eq, Nat.zero_add, ↓z_coeL_cons, ↓z_coeL_nil, ↓z_pack1, ↓z_coe_bool, and_self]); (try simp only [Int.toNat_natCast, Nat.mul_one, Bool.or_false, Bool.false_or, Bool.or_self, Bool.or_true])), fun h3 => ?_⟩
  refine hold_intro ⟨[], Nat × List (List UInt8) × List Bool, fun p => ⟨197, 3, [(39, .int .i64 p.1), (38, .int .i64 a.length), (37, .sl 4 a.length (List.flatMap opC a)), (2, .ptr 0 0), (5, .ptr 1 0), (6, .ptr 2 0)], [(0, [.int .i64 l, .int .i64 r, .sl 1 x.length (x.map D.str)]), (1, [.int .i64 l, .int .i64 r, .sl 1 x.length (p.2.1.map D.str)]), (2, p.2.2.map D.bool)]⟩, fun p => p.1 ≤ a.length ∧ p.2.2.length = 12 ∧ p.2.1.length = x.length ∧ ∀ (j : Nat) (h : j < x.length) (h' : j < p.2.1.length), p.2.1[j] = if p.2.2.getD j false = true then [] else x[j], fun p => a.length - p.1, ?_, ?_⟩
  · (simp -dsimp only [↓z_ad_nil, ↓z_wk, ↓z_wkE_cons, ↓lkW_cons, ↓reduceIte, D.int.injEq, true_and, Nat.reduceEqDiff, Nat.zero_add, Nat.reduceAdd, ↓z_wkE_nil, and_self, and_true, ↓z_wkO_cons, ↓lkoW_cons, reduceCtorEq, List.cons.injEq, D.sl.injEq, ↓z_wkO_nil]); (try simp only [Int.toNat_natCast, Nat.mul_one, Bool.or_false, Bool.false_or, Bool.or_self, Bool.or_true])
    exact ⟨(0, x, List.replicate 12 false), ⟨by simp, by simp, by simp, fun j h h' => (if_neg (by rw [List.getD_eq_getElem?_getD, List.getElem?_replicate]; split <;> simp)).symm⟩, by simp, by simp, rfl⟩
  rintro ⟨i, y, z⟩ ⟨hi, hz, hy, hA⟩
  by_cases hlt : i < a.length
  · have ⟨hl4, hop⟩ := opC_at hlt
    (simp -dsimp only [↓z_seq, ↓z_region, ↓z_ops_plain, ↓z_binOp, ↓evW_tmp, ↓lkW_cons, ↓reduceIte, Nat.reduceEqDiff, ↓z_bn_lss, ↓z_put, Nat.reduceLT, ↓z_ops_nil, ↓z_seq_nrm, ↓z_cond, ↓z_cnd, ↓z_gdt, ↓z_skip, ↓z_block, ↓z_indexAddr, ↓y_ty51, ↓z_elTy_sl, ↓y_sz54, ↓z_ix_sl, ↓z_load, ↓y_ty54, ↓z_agTy_st, ↓loadW_rop, ↓z_rd_t, hl4, ↓z_alloc, ↓y_zr54, ↓z_new, ↓z_nm_cons, ↓z_nmC_cons, ↓z_mn'_int, ↓z_mn'_sl, ↓z_nmC_nil, and_self, ↓z_nmC_bool, ↓z_nm_nil, ↓z_pg_cons, ↓z_mn_agg, ↓z_mn_rop, ↓z_mn_bool, ↓z_mn_int, ↓z_mn_sl, ↓z_mn_ptr, reduceCtorEq, ↓z_pg_nil, ↓z_store, ↓z_cl_agg, ↓z_store_ptr, ↓lkoW_cons, Nat.zero_add, List.length_cons, List.length_nil, Nat.reduceAdd, Nat.reduceLeDiff, ↓spsW_cons, ↓drW_cons, Nat.reduceSub, ↓drW_nil, ↓z_cat_nil_r, ↓z_so_cons, ↓z_put_none, ↓z_fieldAddr, ↓y_fl54x1, ↓y_sz3, ne_eq, not_false_eq_true, ↓z_fa_ptr, ↓y_ty3, ↓z_agTy_int, ↓loadW_ptr, ↓z_rd_f, ↓evW_const, ↓constW_int, inR_i64, Int.reduceNeg, Int.reduceLE, ↓z_move, ↓z_ops_guard, ↓z_grd, ↓z_dst_s, ↓z_dst_0, ↓y_fl24x2, ↓y_sz22, ↓y_ty22, ↓z_agTy_sl, ↓z_callb, ↓z_evL_cons, ↓z_evL_nil, ↓z_len, ↓z_pick, ↓z_assign, ↓y_fl54x3, ↓y_sz4, ↓y_ty4, ↓z_agTy_bool, ↓y_ty24, ↓y_sz24, ↓z_callv, ↓evW_func, ↓z_fun0, ↓z_coeL_cons, ↓z_coeL_nil, true_and, ↓y_fl54x0, ↓y_fl54x2, ↓y_sz9, ↓y_ty9, ↓z_agTy_str, ↓constW_bool, z_sub, List.length_take, List.length_drop, ↓z_exit, ↓z_seq_ext, ↓z_lp_ext, ↓z_blk_ext, ↓y_fl24x0, ↓nthW_cons, ↓z_bn_neq, ↓z_grdD_b, ↓z_gdf, not_true_eq_false, ↓y_fl24x1, ↓z_gff, ↓z_pick_b, ↓z_gft, ↓z_ln_sl, ↓z_loop, z_ite]); (try simp only [Int.toNat_natCast])
    (simp -dsimp only [hop, ↓nthW_cons, reduceCtorEq, ↓reduceIte, Nat.reduceSub, ↓z_bn_geq, ↓z_grdD_b, ↓z_gdt, ↓evW_tmp, ↓lkW_cons, Nat.reduceEqDiff, ↓z_fa_ptr, ↓z_put, Nat.reduceLT, ↓z_grd, ↓z_dst_s, ↓z_dst_0, ↓z_gtt, ↓loadW_ptr, ↓lkoW_cons, ↓z_rd_f, Nat.zero_add, ↓z_ln_sl, ↓z_bn_lss, ↓z_pick_b, ↓z_cnd, ↓z_rd_t, List.length_cons, List.length_nil, Nat.reduceAdd, Nat.reduceLeDiff, ↓z_sub_c, ↓z_sub_nil, ↓z_coe_oag, ↓z_coeC_cons, ↓z_coeS_int, ↓z_coeS_sl, ↓z_coeC_nil, ↓z_coe_int, true_and, ↓z_coe_str, z_gvar, ↓z_gnt, ↓z_gtf, z_ite]); (try simp only [Int.toNat_natCast, Nat.mul_one, Bool.or_false, Bool.false_or, Bool.or_self, Bool.or_true])
    have hz1 : z.length = 12 := hz
    have hy1 : y.length = x.length := hy
    have hA1 : ∀ (j : Nat) (h : j < x.length) (h' : j < y.length), y[j] = if z.getD j false = true then [] else x[j] := hA
    clear hA hz hy hi
    generalize a[i] = q
    obtain ⟨f, n, t, sp⟩ := q
    have hcy := chk_erase h3 hy1 hA1
    refine ⟨fun _ => ⟨by omega, by omega, by omega, by omega, fun h4 => ⟨fun h5 => ?_, fun h5 => ?_⟩, fun h4 => ⟨fun h5 => ?_, fun h5 => ?_⟩⟩, fun h => absurd h (by omega)⟩
    · by_cases h6 : n < x.length
      · obtain ⟨k, rfl⟩ : ∃ k : Nat, n = k := ⟨n.toNat, (Int.toNat_of_nonneg h4).symm⟩
        refine call_fn (spend_in x.length hy1 hcy (by omega)) fun _ => ?_
        (simp -dsimp only [↓z_put, Nat.reduceLT, ↓z_ops_plain, ↓z_move, ↓evW_tmp, ↓lkW_cons, ↓reduceIte, ↓z_extract, ↓z_ex, ↓nthW_cons, Nat.reduceEqDiff, reduceCtorEq, Nat.reduceSub, ↓z_alloc, ↓y_zr24, ↓z_new, ↓z_nm_cons, ↓z_nmC_cons, ↓z_mn'_int, ↓z_mn'_str, ↓z_mn'_bool, ↓z_nmC_nil, and_self, ↓z_mn'_sl, ↓z_nmC_bool, ↓z_nm_nil, ↓z_pg_cons, ↓z_mn_int, ↓z_mn_agg, ↓z_mn_tup, ↓z_mn_ptr, ↓z_mn_oag, ↓z_mnL_int, ↓z_mnL_sl, ↓z_mnL_nil, ↓z_mn_bool, ↓z_mn_sl, ↓z_mn_rop, ↓z_pg_nil, ↓z_store, ↓y_sz24, ↓z_cl_agg, List.length_cons, List.length_nil, Nat.zero_add, Nat.reduceAdd, ↓z_store_ptr, ↓lkoW_cons, Nat.reduceLeDiff, ↓spsW_cons, ↓drW_cons, ↓drW_nil, ↓z_cat_nil_r, ↓z_so_cons, ↓z_put_none, ↓z_assign, ↓z_ops_nil, ↓z_seq_nrm, ↓z_seq, ↓z_region, ↓z_binOp, ↓evW_const, ↓constW_int, inR_i64, Int.reduceNeg, Int.reduceLE, ↓z_bn_eql, ↓z_ops_guard, ↓z_grd, ↓z_dst_s, ↓z_dst_0, ↓z_grdD_b, ↓z_gdt, ↓z_gtt, ↓z_unOp, ↓z_un_not, ↓z_pick, ↓z_pick_b, ↓z_cond, ↓z_cnd, ↓z_gnt, ↓z_gdf, ↓z_skip, ↓z_load, ↓y_ty24, ↓z_agTy_st, ↓loadW_ptr, ↓z_rd_t, ↓z_sub_c, ↓z_sub_nil, ↓z_cl_oag, ↓z_fieldAddr, ↓y_fl54x1, ↓y_sz3, ne_eq, not_false_eq_true, ↓z_fa_ptr, ↓y_ty3, ↓z_agTy_int, ↓z_rd_f, ↓z_indexAddr, ↓y_ty52, ↓z_elTy_arr, ↓y_sz4, ↓z_ix_ptr, ↓constW_bool, ↓z_cl_bool, Nat.mul_one, List.length_map, ↓z_exit, ↓z_seq_ext, ↓z_blk_ext, ↓z_bn_add, ↓wrW_i64, ↓z_lp_nrm, ↓z_wk, ↓z_wkE_cons, D.int.injEq, true_and, ↓z_wkE_nil, and_true, ↓z_wkO_cons, List.cons.injEq, D.sl.injEq, ↓z_wkO_nil, z_sps, ↓z_ret, ↓z_seq_rt, ↓z_blk_rt, ↓z_lp_rt, ↓z_end_rt, resLW, res1W, ↓z_coeL_cons, ↓z_coeL_nil, ↓z_pack1, ↓z_coe_bool, D.bool.injEq, z_ite]); (try simp only [Int.toNat_natCast])
        refine ⟨fun _ => ⟨by omega, by omega, by omega, by omega, (i + 1, y.set k [], z.set k true), ⟨by simp only; omega, by simpa using hz1, by simpa using hy1, erase_step (by omega) hA1⟩, by simp only; omega, rfl, rfl, set_bool (by omega)⟩, fun h => h h6⟩
      · refine call_fn (spend_out x.length hy1 hcy (fun h => h6 h.2)) fun _ => ?_
        (simp -dsimp only [↓z_put, Nat.reduceLT, ↓z_ops_plain, ↓z_move, ↓evW_tmp, ↓lkW_cons, ↓reduceIte, ↓z_extract, ↓z_ex, ↓nthW_cons, Nat.reduceEqDiff, reduceCtorEq, Nat.reduceSub, ↓z_alloc, ↓y_zr24, ↓z_new, ↓z_nm_cons, ↓z_nmC_cons, ↓z_mn'_int, ↓z_mn'_str, ↓z_mn'_bool, ↓z_nmC_nil, and_self, ↓z_mn'_sl, ↓z_nmC_bool, ↓z_nm_nil, ↓z_pg_cons, ↓z_mn_int, ↓z_mn_agg, ↓z_mn_tup, ↓z_mn_ptr, ↓z_mn_oag, ↓z_mnL_int, ↓z_mnL_sl, ↓z_mnL_nil, ↓z_mn_bool, ↓z_mn_sl, ↓z_mn_rop, ↓z_pg_nil, ↓z_store, ↓y_sz24, ↓z_cl_agg, List.length_cons, List.length_nil, Nat.zero_add, Nat.reduceAdd, ↓z_store_ptr, ↓lkoW_cons, Nat.reduceLeDiff, ↓spsW_cons, ↓drW_cons, ↓drW_nil, ↓z_cat_nil_r, ↓z_so_cons, ↓z_put_none, ↓z_assign, ↓z_ops_nil, ↓z_seq_nrm, ↓z_seq, ↓z_region, ↓z_binOp, ↓evW_const, ↓constW_int, inR_i64, Int.reduceNeg, Int.reduceLE, ↓z_bn_eql, ↓z_ops_guard, ↓z_grd, ↓z_dst_s, ↓z_dst_0, ↓z_grdD_b, ↓z_gdt, Int.reduceEq, ↓z_gnt, ↓z_gtf, ↓z_pick, ↓z_pick_b, ↓constW_bool, ↓z_cond, ↓z_cnd, ↓z_gft, ↓z_skip, ↓z_exit, ↓z_seq_ext, ↓z_blk_ext, ↓z_bn_add, ↓wrW_i64, ↓z_lp_nrm, ↓z_wk, ↓z_wkE_cons, D.int.injEq, true_and, ↓z_wkE_nil, and_true, ↓z_wkO_cons, List.cons.injEq, D.sl.injEq, ↓z_wkO_nil]); (try simp only [Int.toNat_natCast, Nat.mul_one, Bool.or_false, Bool.false_or, Bool.or_self, Bool.or_true])
        exact ⟨by omega, (i + 1, y, z), ⟨by simp only; omega, hz1, hy1, hA1⟩, by simp only; omega, rfl, rfl, rfl⟩
    · by_cases h6 : n < x.length
      · obtain ⟨k, rfl⟩ : ∃ k : Nat, n = k := ⟨n.toNat, (Int.toNat_of_nonneg h4).symm⟩
        by_cases h7 : useE l r y f k t = 0
        · obtain ⟨u1, u2, u3, u4⟩ := useE_inv (by omega) h7
          have hyk := hA1 k (by omega) (by omega)
          have hzk : z.getD k false = false := by
            cases e : z.getD k false
            · rfl
            · rw [e, if_pos rfl] at hyk; exact absurd hyk u3
          rw [hzk, if_neg (by simp)] at hyk
          rw [hyk] at u3 u4
          refine call_fn (use_in x.length hy1 (by omega) h7) fun _ => ?_
          (simp -dsimp only [↓z_put, Nat.reduceLT, ↓z_ops_plain, ↓z_move, ↓evW_tmp, ↓lkW_cons, ↓reduceIte, ↓z_extract, ↓z_ex, ↓nthW_cons, Nat.reduceEqDiff, reduceCtorEq, Nat.reduceSub, ↓z_alloc, ↓y_zr24, ↓z_new, ↓z_nm_cons, ↓z_nmC_cons, ↓z_mn'_int, ↓z_mn'_str, ↓z_mn'_bool, ↓z_nmC_nil, and_self, ↓z_mn'_sl, ↓z_nmC_bool, ↓z_nm_nil, ↓z_pg_cons, ↓z_mn_int, ↓z_mn_agg, ↓z_mn_str, ↓z_mn_tup, ↓z_mn_ptr, ↓z_mn_oag, ↓z_mnL_int, ↓z_mnL_sl, ↓z_mnL_nil, ↓z_mn_bool, ↓z_mn_sl, ↓z_mn_rop, ↓z_pg_nil, ↓z_assign, ↓z_store, ↓y_sz24, ↓z_cl_agg, List.length_cons, List.length_nil, Nat.zero_add, Nat.reduceAdd, ↓z_store_ptr, ↓lkoW_cons, Nat.reduceLeDiff, ↓spsW_cons, ↓drW_cons, ↓drW_nil, ↓z_cat_nil_r, ↓z_so_cons, ↓z_put_none, ↓z_ops_nil, ↓z_seq_nrm, ↓z_seq, ↓z_region, ↓z_unOp, ↓z_un_not, ↓z_ops_guard, ↓z_grd, ↓z_dst_s, ↓z_dst_0, ↓z_grdD_b, ↓z_gnt, ↓z_gdf, ↓z_gtf, ↓z_grdD_u, ↓z_pick, ↓z_pick_b, ↓evW_const, ↓constW_bool, ↓z_cond, ↓z_cnd, ↓z_gft, ↓z_skip, ↓z_binOp, ↓constW_int, inR_i64, Int.reduceNeg, Int.reduceLE, ↓z_bn_neq, ↓z_gdt, ne_eq, not_true_eq_false, ↓z_load, ↓y_ty24, ↓z_agTy_st, ↓loadW_ptr, ↓z_rd_t, ↓z_sub_c, ↓z_sub_nil, ↓z_fieldAddr, ↓y_fl54x0, ↓y_sz3, not_false_eq_true, ↓z_fa_ptr, ↓y_ty3, ↓z_agTy_int, ↓z_rd_f, ↓y_fl54x1, ↓z_callv, ↓evW_func, ↓z_evL_cons, ↓z_evL_nil, ↓z_fun0, ↓z_coeL_cons, ↓z_coe_oag, ↓z_coeC_cons, ↓z_coeS_int, ↓z_coeS_sl, ↓z_coeC_nil, ↓z_coe_int, ↓z_coe_str, ↓z_coeL_nil, true_and, ↓z_gtt, ↓z_bn_eql, ↓z_gnf, ↓z_gff, ↓z_ret, ↓z_seq_rt, ↓z_blk_rt, ↓z_lp_rt, ↓z_end_rt, resLW, res1W, Bool.not_false, ↓z_pack1, ↓z_coe_bool, D.bool.injEq, z_ite])
          refine ⟨fun _ => ?_, fun h => absurd h6 h⟩
          have hl2 : (sumB t (t.length |> y[k].take)).length = t.length := by rw [sumB_len, List.length_take, hyk]; omega
          have hagain := use_in (G := G) (t := sumB t (y[k].take t.length)) x.length rfl (by omega) (useE_ok (s := sumB t (y[k].take t.length)) h3 u1 (by omega) u2 u3 (by rw [hl2]; exact u4))
          rw [hl2] at hagain
          refine call_fn (hagain.out (d' := .tup [.str t, .agg [.int .i64 l, .int .i64 r, .sl 1 x.length ((x.set k []).map D.str)], .int .i64 0]) (by rw [hyk, sum_back (by rw [List.length_take]; omega)])) fun _ => ?_
          (simp -dsimp only [↓z_put, Nat.reduceLT, ↓z_ops_plain, ↓z_move, ↓evW_tmp, ↓lkW_cons, ↓reduceIte, ↓z_extract, ↓z_ex, ↓nthW_cons, Nat.reduceEqDiff, reduceCtorEq, Nat.reduceSub, ↓z_alloc, ↓y_zr24, ↓z_new, ↓z_nm_cons, ↓z_nmC_cons, ↓z_mn'_int, ↓z_mn'_sl, ↓z_nmC_nil, and_self, ↓z_mn'_str, ↓z_mn'_bool, ↓z_nmC_bool, ↓z_nm_nil, Nat.reduceAdd, ↓z_pg_cons, ↓z_mn_int, ↓z_mn_agg, ↓z_mn_str, ↓z_mn_tup, ↓z_mn_ptr, ↓z_mn_oag, ↓z_mnL_int, ↓z_mnL_sl, ↓z_mnL_nil, ↓z_mn_bool, ↓z_mn_sl, ↓z_mn_rop, ↓z_pg_nil, ↓z_assign, ↓z_store, ↓y_sz24, ↓z_cl_agg, List.length_cons, List.length_nil, Nat.zero_add, ↓z_store_ptr, ↓lkoW_cons, Nat.reduceLeDiff, ↓spsW_cons, ↓drW_cons, ↓drW_nil, ↓z_cat_nil_r, ↓z_so_cons, ↓z_put_none, ↓z_ops_nil, ↓z_seq_nrm, ↓z_seq, ↓z_region, ↓z_fieldAddr, ↓y_fl54x1, ↓y_sz3, ne_eq, not_false_eq_true, ↓z_fa_ptr, ↓z_load, ↓y_ty3, ↓z_agTy_int, ↓loadW_ptr, ↓z_rd_f, ↓z_indexAddr, ↓y_ty52, ↓z_elTy_arr, ↓y_sz4, ↓z_ix_ptr, ↓y_ty4, ↓z_agTy_bool, ↓z_nth_bool, ↓z_ops_guard, ↓z_grd, ↓z_dst_s, ↓z_dst_0, ↓z_grdD_b, Nat.mul_one, ↓z_gff, ↓z_binOp, ↓evW_const, ↓constW_int, inR_i64, Int.reduceNeg, Int.reduceLE, ↓z_bn_neq, ↓z_pick, ↓z_pick_b, ↓z_gft, ↓z_gdf, not_true_eq_false, ↓y_fl54x2, ↓y_sz9, ↓y_ty9, ↓z_agTy_str, ↓z_bn_sneq, ↓z_callb, ↓z_evL_cons, ↓z_evL_nil, ↓z_len, ↓z_ln_str, ↓z_cond, ↓z_cnd, ↓z_gdt, ↓constW_bool, ↓z_ret, ↓z_seq_rt, ↓z_blk_rt, ↓z_lp_rt, ↓z_end_rt, resLW, res1W, Bool.not_true, ↓z_coeL_cons, ↓z_coeL_nil, ↓z_pack1, ↓z_coe_bool, D.bool.injEq, true_and, ↓z_skip, ↓z_cl_bool, List.length_map, ↓y_ty24, ↓z_agTy_st, ↓z_rd_t, ↓z_sub_c, ↓z_sub_nil, ↓z_cl_oag, ↓z_blk_nrm, ↓z_bn_add, ↓wrW_i64, ↓z_lp_nrm, ↓z_wk, ↓z_wkE_cons, D.int.injEq, ↓z_wkE_nil, and_true, ↓z_wkO_cons, List.cons.injEq, D.sl.injEq, ↓z_wkO_nil, z_sps, z_ite, Classical.not_not, ↓z_gnf, ↓z_gnt, ↓z_gtf, ↓z_gtt, Bool.not_false, z_gvarf]); (try simp only [Int.toNat_natCast])
          have hzk' : z[k]'(by omega) = false := by
            rwa [List.getD_eq_getElem?_getD, List.getElem?_eq_getElem (by omega)] at hzk
          refine ⟨by omega, by omega, by omega, fun _ => ⟨fun h => h (by rw [hl2]), fun _ => ⟨by omega, by omega, by omega, by omega, (i + 1, y.set k [], z.set k true), ⟨by simp only; omega, by simpa using hz1, by simpa using hy1, erase_step (by omega) hA1⟩, by simp only; omega, rfl, rfl, set_bool (by omega)⟩⟩, fun h => by rw [hzk'] at h; cases h⟩
        · have hfin : ∃ y_1 : Nat × List (List UInt8) × List Bool, (y_1.1 ≤ a.length ∧ y_1.2.2.length = 12 ∧ y_1.2.1.length = x.length ∧ ∀ (j : Nat) (h : j < x.length) (h' : j < y_1.2.1.length), y_1.2.1[j] = if y_1.2.2.getD j false = true then [] else x[j]) ∧ a.length - y_1.1 < a.length - i ∧ (i : Int) + 1 = (y_1.1 : Int) ∧ y.map D.str = y_1.2.1.map D.str ∧ z.map D.bool = y_1.2.2.map D.bool :=
            ⟨(i + 1, y, z), ⟨by simp only; omega, hz1, hy1, hA1⟩, by simp only; omega, rfl, rfl, rfl⟩
          refine call_fn (use_err x.length hy1 h7) fun _ => ?_
          (simp -dsimp only [↓z_put, Nat.reduceLT, ↓z_ops_plain, ↓z_move, ↓evW_tmp, ↓lkW_cons, ↓reduceIte, ↓z_extract, ↓z_ex, ↓nthW_cons, Nat.reduceEqDiff, reduceCtorEq, Nat.reduceSub, ↓z_alloc, ↓y_zr24, ↓z_new, ↓z_nm_cons, ↓z_nmC_cons, ↓z_mn'_int, ↓z_mn'_str, ↓z_mn'_bool, ↓z_nmC_nil, and_self, ↓z_mn'_sl, ↓z_nmC_bool, ↓z_nm_nil, ↓z_pg_cons, ↓z_mn_int, ↓z_mn_agg, ↓z_mn_str, ↓z_mn_tup, ↓z_mn_ptr, ↓z_mn_oag, ↓z_mnL_int, ↓z_mnL_sl, ↓z_mnL_nil, ↓z_mn_bool, ↓z_mn_sl, ↓z_mn_rop, ↓z_pg_nil, ↓z_assign, ↓z_store, ↓y_sz24, ↓z_cl_agg, List.length_cons, List.length_nil, Nat.zero_add, Nat.reduceAdd, ↓z_store_ptr, ↓lkoW_cons, Nat.reduceLeDiff, ↓spsW_cons, ↓drW_cons, ↓drW_nil, ↓z_cat_nil_r, ↓z_so_cons, ↓z_put_none, ↓z_ops_nil, ↓z_seq_nrm, ↓z_seq, ↓z_region, ↓z_unOp, ↓z_un_not, ↓z_ops_guard, ↓z_grd, ↓z_dst_s, ↓z_dst_0, ↓z_grdD_b, ↓z_gnt, ↓z_gdf, ↓z_gtf, ↓z_grdD_u, ↓z_pick, ↓z_pick_b, ↓evW_const, ↓constW_bool, ↓z_cond, ↓z_cnd, ↓z_gft, ↓z_skip, ↓z_binOp, ↓constW_int, inR_i64, Int.reduceNeg, Int.reduceLE, ↓z_bn_neq, ↓z_gdt, ne_eq, ↓z_bn_eql, ↓z_fieldAddr, ↓y_fl54x1, ↓y_sz3, not_false_eq_true, ↓z_fa_ptr, ↓z_gtt, ↓z_load, ↓y_ty3, ↓z_agTy_int, ↓loadW_ptr, ↓z_rd_f, ↓z_indexAddr, ↓y_ty52, ↓z_elTy_arr, ↓y_sz4, ↓z_ix_ptr, ↓y_ty4, ↓z_agTy_bool, ↓z_nth_bool, Nat.mul_one, ↓y_fl24x2, ↓y_sz22, ↓y_ty22, ↓z_agTy_sl, ↓z_elTy_sl, ↓y_sz9, ↓z_ix_sl, ↓y_ty9, ↓z_agTy_str, ↓loadW_rop, ↓z_nth_str, ↓constW_string, maxLen_lit, ↓z_bn_sneq, ↓z_ret, ↓z_seq_rt, ↓z_blk_rt, ↓z_lp_rt, ↓z_end_rt, resLW, res1W, Bool.not_true, ↓z_coeL_cons, ↓z_coeL_nil, ↓z_pack1, ↓z_coe_bool, D.bool.injEq, true_and, ↓z_exit, ↓z_seq_ext, ↓z_blk_ext, ↓z_bn_add, ↓wrW_i64, ↓z_lp_nrm, ↓z_wk, ↓z_wkE_cons, D.int.injEq, ↓z_wkE_nil, and_true, ↓z_wkO_cons, List.cons.injEq, D.sl.injEq, ↓z_wkO_nil, z_ite, Classical.not_not, z_gvarf, ↓y_ty24, ↓z_agTy_st, ↓z_rd_t, ↓z_sub_c, ↓z_sub_nil, ↓y_fl54x0, ↓z_callv, ↓evW_func, ↓z_evL_cons, ↓z_evL_nil, ↓z_fun0, ↓z_coe_oag, ↓z_coeC_cons, ↓z_coeS_int, ↓z_coeS_sl, ↓z_coeC_nil, ↓z_coe_int, ↓z_coe_str, ↓z_gnf, ↓z_gff, Bool.not_false]); (try simp only [Int.toNat_natCast])
          have hst : useE l r y f (k : Int) t = 15 → z[k]'(by omega) = false → x[k]'(by omega) = [] := fun h1 h2 => by
            have e1 := useE_stale (by omega) hcy h1
            rw [hA1 k (by omega) (by omega)] at e1
            rwa [if_neg (by rw [List.getD_eq_getElem?_getD, List.getElem?_eq_getElem (by omega)]; simp [h2])] at e1
          repeat' first | apply And.intro | intro _
          all_goals first | omega | exact hfin | exact ⟨by omega, hfin⟩ | skip
          all_goals
            refine ⟨by omega, fun hz0 => ⟨by omega, by omega, by omega, fun hne => hne (hst (by assumption) hz0), fun _ => ⟨by omega, hfin⟩⟩, fun _ => ⟨by omega, hfin⟩⟩
      · refine call_fn (use_out x.length hy1 hcy (fun h => h6 h.2)) fun _ => ?_
        (simp -dsimp only [↓z_put, Nat.reduceLT, ↓z_ops_plain, ↓z_move, ↓evW_tmp, ↓lkW_cons, ↓reduceIte, ↓z_extract, ↓z_ex, ↓nthW_cons, Nat.reduceEqDiff, reduceCtorEq, Nat.reduceSub, ↓z_alloc, ↓y_zr24, ↓z_new, ↓z_nm_cons, ↓z_nmC_cons, ↓z_mn'_int, ↓z_mn'_str, ↓z_mn'_bool, ↓z_nmC_nil, and_self, ↓z_mn'_sl, ↓z_nmC_bool, ↓z_nm_nil, ↓z_pg_cons, ↓z_mn_int, ↓z_mn_agg, ↓z_mn_str, ↓z_mn_tup, ↓z_mn_ptr, ↓z_mn_oag, ↓z_mnL_int, ↓z_mnL_sl, ↓z_mnL_nil, ↓z_mn_bool, ↓z_mn_sl, ↓z_mn_rop, ↓z_pg_nil, ↓z_assign, ↓z_store, ↓y_sz24, ↓z_cl_agg, List.length_cons, List.length_nil, Nat.zero_add, Nat.reduceAdd, ↓z_store_ptr, ↓lkoW_cons, Nat.reduceLeDiff, ↓spsW_cons, ↓drW_cons, ↓drW_nil, ↓z_cat_nil_r, ↓z_so_cons, ↓z_put_none, ↓z_ops_nil, ↓z_seq_nrm, ↓z_seq, ↓z_region, ↓z_unOp, ↓z_un_not, ↓z_ops_guard, ↓z_grd, ↓z_dst_s, ↓z_dst_0, ↓z_grdD_b, ↓z_gnt, ↓z_gdf, ↓z_gtf, ↓z_grdD_u, ↓z_pick, ↓z_pick_b, ↓evW_const, ↓constW_bool, ↓z_cond, ↓z_cnd, ↓z_gft, ↓z_skip, ↓z_binOp, ↓constW_int, inR_i64, Int.reduceNeg, Int.reduceLE, ↓z_bn_neq, ↓z_gdt, ne_eq, Int.reduceEq, not_false_eq_true, ↓z_bn_eql, ↓z_exit, ↓z_seq_ext, ↓z_blk_ext, ↓z_bn_add, ↓wrW_i64, ↓z_lp_nrm, ↓z_wk, ↓z_wkE_cons, D.int.injEq, true_and, ↓z_wkE_nil, and_true, ↓z_wkO_cons, List.cons.injEq, D.sl.injEq, ↓z_wkO_nil, ↓z_gtt, ↓z_gff, z_ite]); (try simp only [Int.toNat_natCast, Nat.mul_one, Bool.or_false, Bool.false_or, Bool.or_self, Bool.or_true])
        exact ⟨fun h => absurd h h6, fun _ => ⟨by omega, (i + 1, y, z), ⟨by simp only; omega, hz1, hy1, hA1⟩, by simp only; omega, rfl, rfl, rfl⟩⟩
    · refine call_fn (spend_out x.length hy1 hcy (fun h => h4 h.1)) fun _ => ?_
      (simp -dsimp only [↓z_put, Nat.reduceLT, ↓z_ops_plain, ↓z_move, ↓evW_tmp, ↓lkW_cons, ↓reduceIte, ↓z_extract, ↓z_ex, ↓nthW_cons, Nat.reduceEqDiff, reduceCtorEq, Nat.reduceSub, ↓z_alloc, ↓y_zr24, ↓z_new, ↓z_nm_cons, ↓z_nmC_cons, ↓z_mn'_int, ↓z_mn'_str, ↓z_mn'_bool, ↓z_nmC_nil, and_self, ↓z_mn'_sl, ↓z_nmC_bool, ↓z_nm_nil, ↓z_pg_cons, ↓z_mn_int, ↓z_mn_agg, ↓z_mn_tup, ↓z_mn_ptr, ↓z_mn_oag, ↓z_mnL_int, ↓z_mnL_sl, ↓z_mnL_nil, ↓z_mn_bool, ↓z_mn_rop, ↓z_mn_sl, ↓z_pg_nil, ↓z_store, ↓y_sz24, ↓z_cl_agg, List.length_cons, List.length_nil, Nat.zero_add, Nat.reduceAdd, ↓z_store_ptr, ↓lkoW_cons, Nat.reduceLeDiff, ↓spsW_cons, ↓drW_cons, ↓drW_nil, ↓z_cat_nil_r, ↓z_so_cons, ↓z_put_none, ↓z_assign, ↓z_ops_nil, ↓z_seq_nrm, ↓z_seq, ↓z_region, ↓z_binOp, ↓evW_const, ↓constW_int, inR_i64, Int.reduceNeg, Int.reduceLE, ↓z_bn_eql, ↓z_ops_guard, ↓z_grd, ↓z_dst_s, ↓z_dst_0, ↓z_grdD_b, ↓z_gdt, Int.reduceEq, ↓z_gnt, ↓z_gtf, ↓z_pick, ↓z_pick_b, ↓constW_bool, ↓z_cond, ↓z_cnd, ↓z_gft, ↓z_skip, ↓z_exit, ↓z_seq_ext, ↓z_blk_ext, ↓z_bn_add, ↓wrW_i64, ↓z_lp_nrm, ↓z_wk, ↓z_wkE_cons, D.int.injEq, true_and, ↓z_wkE_nil, and_true, ↓z_wkO_cons, List.cons.injEq, D.sl.injEq, ↓z_wkO_nil]); (try simp only [Int.toNat_natCast, Nat.mul_one, Bool.or_false, Bool.false_or, Bool.or_self, Bool.or_true])
      exact ⟨by omega, (i + 1, y, z), ⟨by simp only; omega, hz1, hy1, hA1⟩, by simp only; omega, rfl, rfl, rfl⟩
    · refine call_fn (use_out x.length hy1 hcy (fun h => h4 h.1)) fun _ => ?_
      (simp -dsimp only [↓z_put, Nat.reduceLT, ↓z_ops_plain, ↓z_move, ↓evW_tmp, ↓lkW_cons, ↓reduceIte, ↓z_extract, ↓z_ex, ↓nthW_cons, Nat.reduceEqDiff, reduceCtorEq, Nat.reduceSub, ↓z_alloc, ↓y_zr24, ↓z_new, ↓z_nm_cons, ↓z_nmC_cons, ↓z_mn'_int, ↓z_mn'_str, ↓z_mn'_bool, ↓z_nmC_nil, and_self, ↓z_mn'_sl, ↓z_nmC_bool, ↓z_nm_nil, ↓z_pg_cons, ↓z_mn_int, ↓z_mn_agg, ↓z_mn_str, ↓z_mn_tup, ↓z_mn_ptr, ↓z_mn_oag, ↓z_mnL_int, ↓z_mnL_sl, ↓z_mnL_nil, ↓z_mn_bool, ↓z_mn_rop, ↓z_mn_sl, ↓z_pg_nil, ↓z_assign, ↓z_store, ↓y_sz24, ↓z_cl_agg, List.length_cons, List.length_nil, Nat.zero_add, Nat.reduceAdd, ↓z_store_ptr, ↓lkoW_cons, Nat.reduceLeDiff, ↓spsW_cons, ↓drW_cons, ↓drW_nil, ↓z_cat_nil_r, ↓z_so_cons, ↓z_put_none, ↓z_ops_nil, ↓z_seq_nrm, ↓z_seq, ↓z_region, ↓z_unOp, ↓z_un_not, ↓z_ops_guard, ↓z_grd, ↓z_dst_s, ↓z_dst_0, ↓z_grdD_b, ↓z_gnt, ↓z_gff, ↓z_gtt, ↓z_binOp, ↓evW_const, ↓constW_int, inR_i64, Int.reduceNeg, Int.reduceLE, ↓z_bn_eql, ↓z_gdf, Int.reduceEq, ↓z_pick, ↓z_pick_b, ↓z_gft, ↓z_cond, ↓z_cnd, ↓z_gdt, ↓z_skip, ↓z_bn_neq, ne_eq, not_false_eq_true, ↓z_gtf, ↓constW_bool, ↓z_exit, ↓z_seq_ext, ↓z_blk_ext, ↓z_bn_add, ↓wrW_i64, ↓z_lp_nrm, ↓z_wk, ↓z_wkE_cons, D.int.injEq, true_and, ↓z_wkE_nil, and_true, ↓z_wkO_cons, List.cons.injEq, D.sl.injEq, ↓z_wkO_nil]); (try simp only [Int.toNat_natCast, Nat.mul_one, Bool.or_false, Bool.false_or, Bool.or_self, Bool.or_true])
      exact ⟨by omega, (i + 1, y, z), ⟨by simp only; omega, hz1, hy1, hA1⟩, by simp only; omega, rfl, rfl, rfl⟩
  · have hz1 : z.length = 12 := hz
    have hy1 : y.length = x.length := hy
    have hA1 : ∀ (j : Nat) (h : j < x.length) (h' : j < y.length), y[j] = if z.getD j false = true then [] else x[j] := hA
    clear hA hz hy hi
    (simp -dsimp only [↓z_seq, ↓z_region, ↓z_ops_plain, ↓z_binOp, ↓evW_tmp, ↓lkW_cons, ↓reduceIte, Nat.reduceEqDiff, ↓z_bn_lss, ↓z_put, Nat.reduceLT, ↓z_ops_nil, ↓z_seq_nrm, ↓z_cond, ↓z_cnd, ↓z_gdt, ↓z_skip, ↓z_block, ↓z_indexAddr, ↓y_ty51, ↓z_elTy_sl, ↓y_sz54, ↓z_ix_sl, ↓z_load, ↓y_ty54, ↓z_agTy_st, ↓loadW_rop, ↓z_rd_t, ↓z_alloc, ↓y_zr54, ↓z_new, ↓z_nm_cons, ↓z_nmC_cons, ↓z_mn'_int, ↓z_mn'_sl, ↓z_nmC_nil, and_self, ↓z_nmC_bool, ↓z_nm_nil, ↓z_pg_cons, ↓z_mn_agg, ↓z_mn_rop, ↓z_mn_bool, ↓z_mn_int, ↓z_mn_sl, ↓z_mn_ptr, reduceCtorEq, ↓z_pg_nil, ↓z_store, ↓z_cl_agg, ↓z_store_ptr, ↓lkoW_cons, Nat.zero_add, List.length_cons, List.length_nil, Nat.reduceAdd, Nat.reduceLeDiff, ↓spsW_cons, ↓drW_cons, Nat.reduceSub, ↓drW_nil, ↓z_cat_nil_r, ↓z_so_cons, ↓z_put_none, ↓z_fieldAddr, ↓y_fl54x1, ↓y_sz3, ne_eq, not_false_eq_true, ↓z_fa_ptr, ↓y_ty3, ↓z_agTy_int, ↓loadW_ptr, ↓z_rd_f, ↓evW_const, ↓constW_int, inR_i64, Int.reduceNeg, Int.reduceLE, ↓z_move, ↓z_ops_guard, ↓z_grd, ↓z_dst_s, ↓z_dst_0, ↓y_fl24x2, ↓y_sz22, ↓y_ty22, ↓z_agTy_sl, ↓z_callb, ↓z_evL_cons, ↓z_evL_nil, ↓z_len, ↓z_pick, ↓z_assign, ↓y_fl54x3, ↓y_sz4, ↓y_ty4, ↓z_agTy_bool, ↓y_ty24, ↓y_sz24, ↓z_callv, ↓evW_func, ↓z_fun0, ↓z_coeL_cons, ↓z_coeL_nil, true_and, ↓y_fl54x0, ↓y_fl54x2, ↓y_sz9, ↓y_ty9, ↓z_agTy_str, ↓constW_bool, z_sub, List.length_take, List.length_drop, ↓z_exit, ↓z_seq_ext, ↓z_lp_ext, ↓z_blk_ext, ↓y_fl24x0, ↓nthW_cons, ↓z_bn_neq, ↓z_grdD_b, ↓z_gdf, not_true_eq_false, ↓y_fl24x1, ↓z_gff, ↓z_pick_b, ↓z_gft, ↓z_ln_sl, ↓z_loop, z_ite]); (try simp only [Int.toNat_natCast])
    refine ⟨fun h => absurd h (by omega), fun _ => ?_⟩
    refine hold_intro ⟨[], Nat, fun j => ⟨197, 3, [(179, .int .i64 j), (178, .int .i64 x.length), (177, .sl 1 x.length (y.map D.str)), (2, .ptr 0 0), (6, .ptr 2 0)], [(0, [.int .i64 l, .int .i64 r, .sl 1 x.length (x.map D.str)]), (2, z.map D.bool)]⟩, fun j => j ≤ x.length, fun j => x.length - j, ?_, ?_⟩
    · (simp -dsimp only [↓z_ad_nil, ↓z_wk, ↓z_wkE_cons, ↓lkW_cons, ↓reduceIte, D.int.injEq, true_and, Nat.reduceEqDiff, ↓z_wkE_nil, and_self, and_true, ↓z_wkO_cons, ↓lkoW_cons, reduceCtorEq, ↓z_wkO_nil]); (try simp only [Int.toNat_natCast, Nat.mul_one, Bool.or_false, Bool.false_or, Bool.or_self, Bool.or_true])
      exact ⟨0, by simp⟩
    rintro j hj
    (simp -dsimp only [↓z_seq, ↓z_region, ↓z_ops_plain, ↓z_binOp, ↓evW_tmp, ↓lkW_cons, ↓reduceIte, Nat.reduceEqDiff, ↓z_bn_lss, ↓z_put, Nat.reduceLT, ↓z_ops_nil, ↓z_seq_nrm, ↓z_cond, ↓z_cnd, ↓z_gdt, ↓z_skip, ↓z_block, ↓z_move, ↓z_indexAddr, ↓y_ty22, ↓z_elTy_sl, ↓y_sz9, ↓z_ix_sl, ↓z_load, ↓y_ty9, ↓z_agTy_str, ↓loadW_rop, ↓z_rd_f, ↓z_nth_str, ↓z_assign, ↓z_fieldAddr, ↓y_fl24x2, ↓y_sz22, ne_eq, reduceCtorEq, not_false_eq_true, ↓z_fa_ptr, ↓z_agTy_sl, ↓loadW_ptr, ↓lkoW_cons, ↓nthW_cons, Nat.zero_add, Nat.reduceSub, ↓y_ty52, ↓z_elTy_arr, ↓y_sz4, ↓z_ix_ptr, ↓y_ty4, ↓z_agTy_bool, ↓z_nth_bool, Nat.mul_one, ↓evW_const, ↓constW_string, List.length_nil, maxLen_lit, Nat.reduceLeDiff, ↓z_bn_sneq, ↓constW_bool, ↓z_ret, ↓z_blk_rt, ↓z_seq_rt, ↓z_lp_rt, ↓z_end_rt, resLW, res1W, ↓z_coeL_cons, ↓z_coeL_nil, ↓z_pack1, ↓z_coe_bool, D.bool.injEq, true_and, ↓z_blk_nrm, ↓constW_int, inR_i64, Int.reduceNeg, Int.reduceLE, and_self, ↓z_bn_add, ↓wrW_i64, ↓z_lp_nrm, ↓z_wk, ↓z_wkE_cons, D.int.injEq, ↓z_wkE_nil, and_true, ↓z_wkO_cons, ↓z_wkO_nil, z_ite, Classical.not_not, z_gvar, ↓z_exit, ↓z_seq_ext, ↓z_lp_ext, ↓z_blk_ext, ↓z_callv, ↓evW_func, ↓z_evL_nil, ↓z_fun0]); (try simp only [Int.toNat_natCast])
    refine ⟨fun h4 => ⟨by omega, by omega, by omega, by omega, by omega, by omega, by omega, by omega, by omega, fun h5 => ⟨fun h6 => h6 ?_, fun _ => ⟨by omega, j + 1, by omega, by omega, rfl⟩⟩, fun h5 => ⟨fun h6 => h6 ?_, fun _ => ⟨by omega, j + 1, by omega, by omega, rfl⟩⟩⟩, fun _ => call_fn (fn_sanity G) fun _ => (by (simp -dsimp only [↓z_put, Nat.reduceLT, ↓z_ops_plain, ↓z_assign, ↓evW_tmp, ↓lkW_cons, ↓reduceIte, ↓z_ops_nil, ↓z_seq_nrm, ↓z_ret, ↓z_end_rt, resLW, res1W, ↓z_coeL_cons, ↓z_coeL_nil, ↓z_pack1, ↓z_coe_bool, and_self]); (try simp only [Int.toNat_natCast, Nat.mul_one, Bool.or_false, Bool.false_or, Bool.or_self, Bool.or_true]))⟩
    · rw [hA1 j (by omega) (by omega), if_pos (by rw [List.getD_eq_getElem?_getD, List.getElem?_eq_getElem (by omega)]; simpa using h5)]
    · rw [hA1 j (by omega) (by omega), if_neg (by rw [List.getD_eq_getElem?_getD, List.getElem?_eq_getElem (by omega)]; simp [h5])]
end Go.Abs

