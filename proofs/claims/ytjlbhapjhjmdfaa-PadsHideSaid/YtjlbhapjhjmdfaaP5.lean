/-
  PAD, fifth walks: the specification's use; light books.
-/
import Derived.Test.YtjlbhapjhjmdfaaP4
namespace Go.Abs
open Go.Proofs

def useR (l r : Int) (x : List (List UInt8)) (f n : Int) (s : List UInt8) : D :=
  if useE l r x f n s ≠ 0 then .agg [.str [], .int .i64 0, .int .i64 0, .nils, .int .i64 (useE l r x f n s)] else .agg [.str (sumB s ((x.getD n.toNat []).take s.length)), .int .i64 l, .int .i64 r, .sl 1 (x.set n.toNat []).length ((x.set n.toNat []).map D.str), .int .i64 0]
theorem useR_err {l r : Int} {x : List (List UInt8)} {f n : Int} {s : List UInt8} {e : Int} (h : useE l r x f n s = e) (he : e ≠ 0) : D.agg [.str [], .int .i64 0, .int .i64 0, .nils, .int .i64 e] = useR l r x f n s := by
  unfold useR; rw [h, if_pos he]
theorem fn_spentI (G : Glob) (l r : Int) (x : List (List UInt8)) (n : Int) (h1 : 0 ≤ n) (h2 : n < x.length) (hx : x.length ≤ 1000000) : Fn G Try.prog 25 [.agg [.int .i64 l, .int .i64 r, .sl 1 x.length (x.map D.str)], .int .i64 n] (.agg [.int .i64 l, .int .i64 r, .sl 1 (x.set n.toNat []).length ((x.set n.toNat []).map D.str)]) := by
  obtain ⟨k, rfl⟩ : ∃ k : Nat, n = k := ⟨n.toNat, by omega⟩
  exact fn_spent G l r x k (by omega) hx
set_option maxRecDepth 100000 in
set_option maxHeartbeats 8000000 in
theorem fn_refUse (G : Glob) (l r : Int) (x : List (List UInt8)) (f n : Int) (s : List UInt8) : Fn G Try.prog 12 [bk l r x, .int .i64 f, .int .i64 n, .str s] (useR l r x f n s) := by
  unfold bk
  refine Fn.mk (c := _) Try.func12 rfl rfl Try.ntmps12 Try.results12 ?_
  (simp -dsimp only [bodyW, List.length_cons, List.length_nil, Nat.zero_add, Nat.reduceAdd, Nat.reduceLeDiff, wfL, ↓z_seq, ↓z_region, ↓z_ops_plain, ↓z_box, ↓evW_tmp, ↓z_lk_env, ↓reduceIte, ↓z_cl_agg, ↓z_nmC_cons, ↓z_mn'_int, ↓z_mn'_sl, ↓z_nmC_nil, and_self, ↓z_new, ↓z_nm_nil, Nat.reduceLT, ↓z_pg_env, ↓z_mn_agg, ↓z_mn_int, ↓z_mn_str, ↓z_pg_env0, ↓z_put, ↓z_alloc, ↓y_zr34, ↓z_nm_cons, ↓z_pg_cons, ↓z_mn_ptr, reduceCtorEq, ↓z_pg_nil, ↓z_ops_nil, ↓z_seq_nrm, ↓z_load, ↓lkW_cons, Nat.reduceEqDiff, ↓y_ty24, ↓y_sz24, ↓z_agTy_st, ↓loadW_ptr, ↓lkoW_cons, ↓z_rd_t, ↓z_sub_c, ↓z_sub_nil, ↓z_callv, ↓evW_func, ↓z_evL_cons, ↓z_evL_nil, ↓z_fun0, ↓z_coeL_cons, ↓z_coe_oag, ↓z_coeC_cons, ↓z_coeS_int, ↓z_coeS_sl, ↓z_coeC_nil, ↓z_coeL_nil, true_and])
  intro _ _ _ _
  refine call_fnL (fn_refCheck G l r x) (by trivial) fun _ => ?_
  (simp -dsimp only [↓z_put, Nat.reduceLT, ↓z_ops_plain, ↓z_assign, ↓evW_tmp, ↓lkW_cons, ↓reduceIte, ↓z_ops_nil, ↓z_seq_nrm, ↓z_seq, ↓z_region, ↓z_move, ↓z_binOp, ↓evW_const, ↓constW_int, inR_i64, Int.reduceNeg, Int.reduceLE, and_self, ↓z_bn_neq, ↓z_cond, ↓z_cnd, ↓z_gdt, ne_eq, Nat.reduceEqDiff, ↓z_build, ↓y_ty34, ↓z_blTy_st, ↓y_zr34, ↓z_bld_cons, ↓y_fl34x2, ↓y_sz28, ↓z_cl_int, List.length_cons, List.length_nil, Nat.zero_add, Nat.reduceAdd, Nat.reduceLeDiff, ↓spsW_cons, reduceCtorEq, Nat.reduceSub, ↓drW_cons, ↓drW_nil, ↓z_cat_nil_r, ↓z_bld_nil, ↓z_store, ↓y_sz34, ↓z_cl_oag, ↓z_store_ptr, ↓lkoW_cons, ↓z_so_cons, ↓z_put_none, ↓z_ret, ↓z_seq_rt, ↓z_end_rt, resLW, res1W, ↓z_agTy_st, ↓z_coeL_cons, ↓z_coeL_nil, ↓z_pack1, ↓loadW_ptr, ↓z_rd_t, ↓z_sub_c, ↓z_sub_nil, ↓z_coe_oag, ↓z_coeC_cons, ↓z_coeS_str, ↓z_coeS_int, ↓z_coeS_nils, ↓z_coeC_nil, true_and, ↓z_skip, ↓z_fieldAddr, ↓y_fl24x0, ↓y_sz3, not_false_eq_true, ↓z_fa_ptr, ↓z_load, ↓y_ty3, ↓z_agTy_int, ↓z_rd_f, ↓nthW_cons, ↓z_ops_guard, ↓z_grd, ↓z_dst_s, ↓z_dst_0, ↓z_grdD_b, ↓z_gtt, ↓y_fl24x1, ↓z_pick, ↓z_pick_b, ↓z_gdf, ↓z_gnf, ↓z_gft, ↓z_gnt, ↓z_gff, ↓constW_bool, ↓z_gtf, Bool.not_false, ↓z_bn_lss, ↓y_fl24x2, ↓y_sz22, ↓y_ty22, ↓z_agTy_sl, ↓z_callb, ↓z_evL_cons, ↓z_evL_nil, ↓z_len, ↓z_ln_sl, ↓z_bn_geq, ↓z_bn_eql, ↓z_bn_rem, ↓z_rem_i64, Int.reduceEq, ↓z_bn_bneq, ↓y_ty4, ↓z_boolTy, ↓z_indexAddr, ↓z_elTy_sl, ↓y_sz9, ↓z_ix_sl, ↓y_ty9, ↓z_agTy_str, ↓loadW_rop, ↓z_nth_str, ↓constW_string, maxLen_lit, ↓z_bn_seql, Nat.mul_one, ↓z_ln_str, ↓z_bn_gtr, ↓z_region_d, ↓y_mix, z_ite, Classical.not_not, Bool.not_true])
  have hx0 : chk l r x = 0 → x.length ≤ 200 := chk0
  have hb : chk l r x = 0 → ∀ p ∈ x, p.length ≤ 4096 := chk0'
  have hz : ∀ h : n.toNat < x.length, x.getD n.toNat [] = x[n.toNat] := fun h => by simp [List.getD_eq_getElem?_getD, h]
  repeat' first | refine ⟨?_, ?_⟩ | intro _
  all_goals first | omega | (refine useR_err ?_ (by first | assumption | omega); unfold useE; (repeat' split) <;> first | rfl | omega | contradiction | (rw [hz (by omega)] at *; first | omega | contradiction)) | (refine rgn_d (by decide +kernel) ?_) | kernel_rfl
  all_goals
    (simp -dsimp only [↓z_drw_move, ↓z_drwS, ↓z_grd_none, ↓z_withE, ↓z_rd_tmp, ↓lkW_cons, Nat.reduceEqDiff, ↓reduceIte, reduceCtorEq, Nat.zero_add, Nat.reduceAdd, ↓z_rd_nil, ↓z_ap_cons, ↓z_ap_nil, ↓z_move, ↓evW_tmp, and_true, ↓z_exD_all, ↓z_exD_eq, ↓z_put, Nat.reduceLT, ↓z_drwK, Nat.mul_one, ↓z_drw_callb_len, ↓z_callb, ↓z_evL_cons, ↓z_evL_nil, ↓z_len, ↓y_ty9, ↓z_ln_str, ↓z_drw_slice, ↓z_oLn, ↓z_oL, List.nil_append, List.append_nil, ne_eq, ↓z_slice, ↓z_evO_none, ↓z_bo_none, ↓z_evO_some, ↓z_seTy_str, ↓z_bo_some, ↓z_slc_str_nh, ↓z_exD_and, ↓z_drw_callv, ↓z_rd_func, true_and, Bool.not_true]); (try simp only [Int.toNat_natCast])
    have hx1 := hx0 (by assumption)
    have hb' := hb (by assumption) x[n.toNat] (List.getElem_mem _)
    refine ⟨by omega, by omega, ex_mk (.str (sumB s (List.take s.length (List.drop 0 x[n.toNat])))) (fun E => ?_) ?_⟩
    · (simp -dsimp only [↓z_ap_cons, ↓z_ap_nil, ↓z_callv, ↓evW_func, ↓z_evL_cons, ↓evW_tmp, ↓lkW_cons, ↓reduceIte, Nat.reduceEqDiff, ↓z_evL_nil, ↓z_fun0, ↓z_coeL_cons, ↓z_coe_str, ↓z_coeL_nil]); (try simp only [Int.toNat_natCast, Nat.mul_one, Bool.or_false, Bool.false_or, Bool.or_self, Bool.or_true])
      exact call_fn (fn_refSum G s _ (by omega) (by simp; omega)) fun _ => ⟨rfl, rfl⟩
    (simp -dsimp only [↓z_put, Nat.reduceLT, ↓z_drwK, ↓z_drw_load, ↓z_drwS, ↓z_grd_none, ↓z_withE, ↓z_rd_tmp, ↓lkW_cons, Nat.reduceEqDiff, ↓reduceIte, ↓z_rd_nil, ↓z_ap_cons, ↓z_ap_nil, ↓z_load, ↓evW_tmp, ↓y_ty24, ↓y_sz24, ↓z_agTy_st, ↓loadW_ptr, ↓lkoW_cons, Nat.zero_add, reduceCtorEq, ↓z_rd_t, List.length_cons, List.length_nil, Nat.reduceAdd, Nat.reduceLeDiff, ↓z_sub_c, ↓z_sub_nil, and_true, true_and, ↓z_exD_all, ↓z_exD_eq, ↓z_drw_move, ↓z_move, ↓z_drw_callv, ↓z_rd_func]); (try simp only [Int.toNat_natCast, Nat.mul_one, Bool.or_false, Bool.false_or, Bool.or_self, Bool.or_true])
    refine ex_mk (.agg [.int .i64 l, .int .i64 r, .sl 1 (x.set n.toNat []).length ((x.set n.toNat []).map D.str)]) (fun E => ?_) ?_
    · (simp -dsimp only [↓z_ap_cons, ↓z_ap_nil, ↓z_callv, ↓evW_func, ↓z_evL_cons, ↓evW_tmp, ↓lkW_cons, ↓reduceIte, Nat.reduceEqDiff, ↓z_evL_nil, ↓z_fun0, ↓z_coeL_cons, ↓z_coe_oag, ↓z_coeC_cons, ↓z_coeS_int, ↓z_coeS_sl, ↓z_coeC_nil, ↓z_coe_int, ↓z_coeL_nil]); (try simp only [Int.toNat_natCast, Nat.mul_one, Bool.or_false, Bool.false_or, Bool.or_self, Bool.or_true])
      exact call_fn (fn_spentI G l r x n (by omega) (by omega) (by omega)) fun _ => ⟨rfl, rfl⟩
    (simp -dsimp only [↓z_put, Nat.reduceLT, ↓z_drwK, ↓z_drw_build, ↓z_drwS, ↓z_grd_none, ↓z_withE, ↓z_mpO_cons, ↓z_rd_tmp, ↓lkW_cons, Nat.reduceEqDiff, ↓reduceIte, ↓z_rd_nil, ↓z_mpO_nil, ↓z_ap_app, ↓z_ap_nil, ↓z_ap_cons, ↓z_build, ↓y_ty34, ↓z_blTy_st, ↓y_zr34, ↓z_bld_cons, ↓y_fl34x0, ↓y_sz9, ↓evW_tmp, ↓z_cl_str, List.length_cons, List.length_nil, Nat.zero_add, Nat.reduceAdd, Nat.reduceLeDiff, ↓spsW_cons, ↓drW_cons, reduceCtorEq, Nat.reduceSub, ↓catW_cons, ↓catW_nil, ↓y_fl34x1, ↓y_sz24, ↓z_cl_agg, ↓z_bld_nil, and_true, true_and, ↓z_exD_all, ↓z_exD_and, ↓z_exD_eq, ↓z_drw_store, ↓z_ops_plain, ↓z_store, ↓y_sz34, ↓z_cl_oag, ↓z_store_ptr, ↓lkoW_cons, ↓drW_nil, ↓z_cat_nil_r, ↓z_so_cons, ↓z_put_none, ↓z_ops_nil, ↓z_seq_nrm, ↓z_ret, ↓z_end_rt, resLW, res1W, Nat.mul_one, ne_eq, ↓z_agTy_st, ↓z_coeL_cons, ↓z_coeL_nil, ↓z_pack1, ↓loadW_ptr, ↓z_rd_t, ↓z_sub_c, ↓z_sub_nil, ↓z_coe_oag, ↓z_coeC_cons, ↓z_coeS_str, ↓z_coeS_int, ↓z_coeS_sl, ↓z_coeC_nil, Bool.not_true]); (try simp only [Int.toNat_natCast, Nat.mul_one, Bool.or_false, Bool.false_or, Bool.or_self, Bool.or_true])
    have e0 : useE l r x f n s = 0 := by
      unfold useE
      (repeat' split) <;> first | rfl | omega | contradiction | (rw [hz (by omega)] at *; first | omega | contradiction)
    unfold useR
    rw [if_neg (by omega), hz (by omega)]
    first | done | (refine ⟨by kernel_rfl, ?_⟩; rw [List.drop_zero]) | (rw [List.drop_zero])
def okP (p : List UInt8) : Bool := decide (¬ (60 < p.length ∧ p.length ≤ 4096 ∨ 4101 < p.length))
def lightB (x : List (List UInt8)) : Bool := decide (¬ (12 < x.length ∧ x.length ≤ 200 ∨ 205 < x.length)) && x.all okP
theorem light_no {x : List (List UInt8)} (h : 12 < x.length ∧ x.length ≤ 200 ∨ 205 < x.length) : lightB x = false := by
  unfold lightB; rw [decide_eq_false (fun e => e h)]; rfl
theorem light_no' {x : List (List UInt8)} {p : List UInt8} (hp : p ∈ x) (h : 60 < p.length ∧ p.length ≤ 4096 ∨ 4101 < p.length) : lightB x = false := by
  unfold lightB
  rw [Bool.and_eq_false_iff]
  right
  rw [List.all_eq_false]
  exact ⟨p, hp, by unfold okP; rw [decide_eq_false (fun e => e h)]; simp⟩
theorem light_yes {x : List (List UInt8)} (h : ¬ (12 < x.length ∧ x.length ≤ 200 ∨ 205 < x.length)) (h2 : ∀ p ∈ x, okP p = true) : lightB x = true := by
  unfold lightB; rw [decide_eq_true h, List.all_eq_true.2 h2]; rfl
set_option maxRecDepth 100000 in
set_option maxHeartbeats 8000000 in
theorem fn_light (G : Glob) (l r : Int) (x : List (List UInt8)) : Fn G Try.prog 8 [bk l r x] (.bool (lightB x)) := by
  unfold bk
  refine Fn.mk (c := _) Try.func8 rfl rfl Try.ntmps8 Try.results8 ?_
  (simp -dsimp only [bodyW, List.length_cons, List.length_nil, Nat.zero_add, Nat.reduceLeDiff, wfL, ↓z_seq, ↓z_region, ↓z_ops_plain, ↓z_box, ↓evW_tmp, ↓z_lk_env, ↓reduceIte, ↓z_cl_agg, ↓z_nmC_cons, ↓z_mn'_int, ↓z_mn'_sl, ↓z_nmC_nil, and_self, ↓z_new, ↓z_nm_nil, Nat.reduceLT, ↓z_pg_env, ↓z_mn_agg, ↓z_pg_env0, ↓z_put, ↓z_assign, ↓evW_const, ↓constW_bool, ↓z_ops_nil, ↓z_seq_nrm, ↓z_fieldAddr, ↓lkW_cons, Nat.reduceEqDiff, ↓y_fl24x2, ↓y_sz22, ne_eq, reduceCtorEq, not_false_eq_true, ↓z_fa_ptr, ↓z_load, ↓y_ty22, ↓z_agTy_sl, ↓loadW_ptr, ↓lkoW_cons, ↓z_rd_f, ↓nthW_cons, Nat.reduceSub, ↓z_callb, ↓z_evL_cons, ↓z_evL_nil, ↓z_len, ↓z_ln_sl, ↓z_binOp, ↓constW_int, inR_i64, Int.reduceNeg, Int.reduceLE, ↓z_bn_gtr, ↓z_move, ↓z_ops_guard, ↓z_grd, ↓z_dst_s, ↓z_dst_0, ↓z_grdD_b, ↓z_gdt, ↓z_gtt, ↓z_bn_leq, ↓z_pick, ↓z_pick_b, ↓z_gdf, ↓z_gnf, ↓z_gft, ↓z_gnt, ↓z_gff, ↓z_cond, ↓z_cnd, ↓z_ret, ↓z_seq_rt, ↓z_end_rt, resLW, res1W, Bool.not_false, ↓z_coeL_cons, ↓z_coeL_nil, ↓z_pack1, ↓z_coe_bool, D.bool.injEq, true_and, ↓z_skip, ↓z_block, ↓z_loop, z_ite, ↓z_gtf, Bool.not_true])
  intro hd
  have hx : x.length ≤ 9223372036854775807 := (hd.2 (.sl 1 x.length (x.map D.str)) (by simp)).1.1
  repeat' first | apply And.intro | intro _
  all_goals first
    | exact (light_no (by omega)).symm
    | refine hold_intro ⟨[], Nat, fun i => ⟨42, 1, [(24, .int .i64 i), (23, .int .i64 x.length), (22, .sl 1 x.length (x.map D.str))], []⟩, fun i => i ≤ x.length ∧ ∀ (j : Nat) (hj : j < i) (hx : j < x.length), okP x[j] = true, fun i => x.length - i, ?_, ?_⟩
  all_goals first
    | ((simp -dsimp only [↓z_ad_nil, ↓z_wk, ↓z_wkE_cons, ↓lkW_cons, ↓reduceIte, D.int.injEq, true_and, Nat.reduceEqDiff, ↓z_wkE_nil, and_self, and_true, ↓z_wkO_nil]); (try simp only [Int.toNat_natCast, Nat.mul_one, Bool.or_false, Bool.false_or, Bool.or_self, Bool.or_true]); exact ⟨0, by simp⟩)
    | rintro i ⟨hi, ha⟩
  all_goals
    (simp -dsimp only [↓z_seq, ↓z_region, ↓z_ops_plain, ↓z_binOp, ↓evW_tmp, ↓lkW_cons, ↓reduceIte, Nat.reduceEqDiff, ↓z_bn_lss, ↓z_put, Nat.reduceLT, ↓z_ops_nil, ↓z_seq_nrm, ↓z_cond, ↓z_cnd, ↓z_gdt, ↓z_skip, ↓z_block, ↓z_indexAddr, ↓y_ty22, ↓z_elTy_sl, ↓y_sz9, ↓z_ix_sl, ↓z_load, ↓y_ty9, ↓z_agTy_str, ↓loadW_rop, ↓z_rd_f, ↓z_nth_str, ↓z_assign, ↓z_move, ↓z_callb, ↓z_evL_cons, ↓z_evL_nil, ↓z_len, ↓z_ln_str, ↓evW_const, ↓constW_int, inR_i64, Int.reduceNeg, Int.reduceLE, and_self, ↓z_bn_gtr, ↓z_ops_guard, ↓z_grd, ↓z_dst_s, ↓z_dst_0, ↓z_grdD_b, Nat.mul_one, ↓z_gtt, ↓z_bn_leq, ↓z_pick, ↓z_pick_b, ↓z_gdf, ↓z_gnf, ↓z_gft, ↓z_gnt, ↓z_gff, ↓constW_bool, ↓z_ret, ↓z_blk_rt, ↓z_seq_rt, ↓z_lp_rt, ↓z_end_rt, resLW, res1W, Bool.not_false, ↓z_coeL_cons, ↓z_coeL_nil, ↓z_pack1, ↓z_coe_bool, D.bool.injEq, true_and, ↓z_blk_nrm, ↓z_bn_add, ↓wrW_i64, ↓z_lp_nrm, ↓z_wk, ↓z_wkE_cons, D.int.injEq, ↓z_wkE_nil, and_true, ↓z_wkO_nil, z_ite, ↓z_gtf, Bool.not_true, ↓z_exit, ↓z_seq_ext, ↓z_lp_ext, ↓z_blk_ext]); (try simp only [Int.toNat_natCast])
    refine ⟨fun h1 => ⟨by omega, h1, by omega, ?_, ?_⟩, fun h1 => (light_yes (by omega) fun p hp => ?_).symm⟩
  all_goals first
    | (obtain ⟨j, hj, rfl⟩ := List.getElem_of_mem hp; exact ha j (by omega) hj)
    | skip
  all_goals
    intro h2
    have hok : ¬ (60 < x[i].length ∧ x[i].length ≤ 4096 ∨ 4101 < x[i].length) → ∀ (j : Nat), j < i + 1 → ∀ (hx : j < x.length), okP x[j] = true := by
      intro h j hj hx
      by_cases e : j = i
      · subst e; unfold okP; exact decide_eq_true h
      · exact ha j (by omega) hx
    repeat' first | apply And.intro | intro _
    all_goals first
      | omega
      | exact (light_no' (List.getElem_mem (by omega : i < x.length)) (by omega)).symm
      | exact ⟨i + 1, ⟨by omega, hok (by omega)⟩, by omega, rfl⟩
end Go.Abs

