/-
  CLOCK, seventh walks: the first value of a condition; the last and the first value for an instant.
-/
import Derived.Test.YtdjfnipabekkaaaK6
namespace Go.Abs
open Go.Proofs
/-- From r on, and not before, p holds. -/
abbrev Cut (p : Int → Bool) (r : Int) : Prop := 0 ≤ r ∧ r ≤ 3600000001 ∧ ∀ k, 0 ≤ k → k ≤ 3600000000 → (p k = true ↔ r ≤ k)
theorem cut_n (p : Int → Bool) : ∀ (n : Nat) (_ : ∀ a b : Int, 0 ≤ a → a ≤ b → b < n → p a = true → p b = true), ∃ r : Int, 0 ≤ r ∧ r ≤ n ∧ ∀ k : Int, 0 ≤ k → k < n → (p k = true ↔ r ≤ k)
  | 0, _ => ⟨0, by omega, by omega, fun k _ _ => by omega⟩
  | n + 1, mono => by
    obtain ⟨r, h1, h2, h3⟩ := cut_n p n (fun a b ha hab hb => mono a b ha hab (by omega))
    by_cases hr : r < n
    · refine ⟨r, h1, by omega, fun k k1 k2 => ?_⟩
      by_cases hk : k < n
      · exact h3 k k1 hk
      · have e : k = n := by omega
        subst e
        have := mono r n h1 (by omega) (by omega) ((h3 r h1 hr).2 (by omega))
        exact ⟨fun _ => by omega, fun _ => this⟩
    · by_cases hp : p n = true
      · refine ⟨n, by omega, by omega, fun k k1 k2 => ?_⟩
        by_cases hk : k < n
        · rw [h3 k k1 hk]; omega
        · have e : k = n := by omega
          subst e
          exact ⟨fun _ => by omega, fun _ => hp⟩
      · refine ⟨n + 1, by omega, by omega, fun k k1 k2 => ?_⟩
        by_cases hk : k < n
        · rw [h3 k k1 hk]; omega
        · have e : k = n := by omega
          subst e
          exact ⟨fun h => absurd h hp, fun _ => by omega⟩
theorem cut_ex (p : Int → Bool) (mono : ∀ a b : Int, 0 ≤ a → a ≤ b → b ≤ 3600000000 → p a = true → p b = true) : ∃ r : Int, Cut p r := by
  obtain ⟨r, h1, h2, h3⟩ := cut_n p 3600000001 (fun a b ha hab hb => mono a b ha hab (by omega))
  exact ⟨r, h1, by omega, fun k k1 k2 => h3 k k1 (by omega)⟩
set_option maxRecDepth 100000 in
set_option maxHeartbeats 8000000 in
theorem fn_lat1 (G : Glob) (due lo hi : Int) : Fn G Try.prog 44 [.int .i64 lo, .int .i64 hi, .rop [.int .i64 due] 0] (.bool (decide (due < hi))) := by
  refine Fn.mk (c := _) Try.func44 rfl rfl Try.ntmps44 Try.results44 ?_
  (simp -dsimp only [bodyW, List.length_cons, List.length_nil, Nat.zero_add, Nat.reduceAdd, Nat.reduceLeDiff, wfL, ↓z_seq, ↓z_region, ↓z_ops_plain, ↓z_assign, ↓evW_const, ↓constW_bool, ↓z_put, Nat.reduceLT, ↓z_ops_nil, ↓z_seq_nrm, ↓z_move, ↓evW_tmp, ↓lkW_cons, Nat.reduceEqDiff, ↓reduceIte, ↓z_lk_env, reduceCtorEq, ↓z_load, ↓y_ty3, ↓y_sz3, ↓z_agTy_int, ↓loadW_rop, ↓z_rd_f, ↓nthW_cons, ↓z_binOp, ↓z_bn_gtr, ↓z_ret, ↓z_end_rt, resLW, res1W, ↓z_envF_cons, ↓z_envF_nil, ↓z_coeL_cons, ↓z_coeL_nil, ↓z_pack1, ↓z_coe_bool, and_self, true_and]); (try simp only [Int.toNat_natCast, Nat.mul_one, Bool.or_false, Bool.false_or, Bool.or_self, Bool.or_true])
  exact fun _ _ _ => trivial
set_option maxRecDepth 100000 in
set_option maxHeartbeats 8000000 in
theorem fn_ear1 (G : Glob) (due lo hi : Int) : Fn G Try.prog 45 [.int .i64 lo, .int .i64 hi, .rop [.int .i64 due] 0] (.bool (decide (due ≤ lo))) := by
  refine Fn.mk (c := _) Try.func45 rfl rfl Try.ntmps45 Try.results45 ?_
  (simp -dsimp only [bodyW, List.length_cons, List.length_nil, Nat.zero_add, Nat.reduceAdd, Nat.reduceLeDiff, wfL, ↓z_seq, ↓z_region, ↓z_ops_plain, ↓z_assign, ↓evW_const, ↓constW_bool, ↓z_put, Nat.reduceLT, ↓z_ops_nil, ↓z_seq_nrm, ↓z_move, ↓evW_tmp, ↓lkW_cons, reduceCtorEq, ↓reduceIte, ↓z_lk_env, ↓z_load, Nat.reduceEqDiff, ↓y_ty3, ↓y_sz3, ↓z_agTy_int, ↓loadW_rop, ↓z_rd_f, ↓nthW_cons, ↓z_binOp, ↓z_bn_geq, ↓z_ret, ↓z_end_rt, resLW, res1W, ↓z_envF_cons, ↓z_envF_nil, ↓z_coeL_cons, ↓z_coeL_nil, ↓z_pack1, ↓z_coe_bool, and_self, true_and]); (try simp only [Int.toNat_natCast, Nat.mul_one, Bool.or_false, Bool.false_or, Bool.or_self, Bool.or_true])
  exact fun _ _ _ => trivial
set_option maxRecDepth 100000 in
set_option maxHeartbeats 8000000 in
theorem fn_first1 (G : Glob) (rate : Int) (rs : List Rd) (due : Int) (f : FuncId) (q : Int → Int → Bool) (hf : ∀ lo hi, Fn G Try.prog f [.int .i64 lo, .int .i64 hi, .rop [.int .i64 due] 0] (.bool (q lo hi))) (x : Int) (hc : chkC rate rs = 0) (hx : instP x) :
    Fn G Try.prog 52 [.int .i64 x, .rop [.fn f [.rop [.int .i64 due] 0]] 0, .rop (clkA rate rs) 0] (.bool (q (loB rate x rs) (hiB rate x rs))) := by
  have hb := fn_bounds G rate x rs hc hx
  unfold clkA at hb ⊢
  refine Fn.mk (c := _) Try.func52 rfl rfl Try.ntmps52 Try.results52 ?_
  (simp -dsimp only [bodyW, List.length_cons, List.length_nil, Nat.zero_add, Nat.reduceAdd, Nat.reduceLeDiff, wfL, ↓z_seq, ↓z_region, ↓z_ops_plain, ↓z_assign, ↓evW_const, ↓constW_bool, ↓z_put, Nat.reduceLT, ↓z_ops_nil, ↓z_seq_nrm, ↓z_region_d, ↓y_mix, true_and])
  intro _ _ _
  refine rgn_d (by decide +kernel) ?_
  (simp -dsimp only [↓z_drw_load, ↓z_drwS, ↓z_grd_none, ↓z_withE, ↓z_rd_tmp, ↓lkW_cons, Nat.reduceEqDiff, ↓reduceIte, ↓z_lk_env, reduceCtorEq, Nat.zero_add, ↓z_rd_nil, ↓z_ap_cons, ↓z_ap_nil, ↓z_load, ↓evW_tmp, ↓y_ty97, ↓y_sz97, ↓z_ag_func, ↓loadW_rop, ↓z_rd_f, ↓nthW_cons, and_true, ↓z_exD_all, ↓z_exD_eq, ↓z_put, Nat.reduceLT, ↓z_drwK, Nat.reduceAdd, ↓y_ty24, ↓y_sz24, ↓z_agTy_st, ↓z_rd_t, List.length_cons, List.length_nil, Nat.reduceLeDiff, ↓z_sub_c, ↓z_sub_nil, true_and, ↓z_drw_move, ↓z_move, ↓z_drw_callv, ↓z_rd_func])
  refine ex_mk (.tup [.int .i64 (loB rate x rs), .int .i64 (hiB rate x rs)]) (fun E => by
    (simp -dsimp only [↓z_ap_cons, ↓z_ap_nil, ↓z_callv, ↓evW_func, ↓z_evL_cons, ↓evW_tmp, ↓lkW_cons, ↓reduceIte, Nat.reduceEqDiff, ↓z_evL_nil, ↓z_fun0, ↓z_coeL_cons, ↓z_coe_agg, ↓z_coe_int, ↓z_coeL_nil]); (try simp only [Int.toNat_natCast, Nat.mul_one, Bool.or_false, Bool.false_or, Bool.or_self, Bool.or_true])
    exact call_fn hb fun _ => ⟨rfl, rfl⟩) ?_
  (simp -dsimp only [↓z_put, Nat.reduceLT, ↓z_drwK, ↓z_drw_extract, ↓z_drwS, ↓z_grd_none, ↓z_withE, ↓z_rd_tmp, ↓lkW_cons, ↓reduceIte, ↓z_rd_nil, ↓z_ap_cons, ↓z_ap_nil, ↓z_extract, ↓evW_tmp, ↓z_ex, ↓nthW_cons, and_true, ↓z_exD_all, ↓z_exD_eq, Nat.reduceEqDiff, reduceCtorEq, Nat.reduceSub, ↓z_drw_callv, true_and])
  refine ex_mk (.bool (q (loB rate x rs) (hiB rate x rs))) (fun E => by
    (simp -dsimp only [↓z_ap_cons, ↓z_ap_nil, ↓z_callv, ↓evW_tmp, ↓lkW_cons, ↓reduceIte, ↓z_evL_cons, Nat.reduceEqDiff, ↓z_evL_nil, ↓z_fun, ↓z_coeL_cons, ↓z_coe_int, ↓z_coeL_nil]); (try simp only [Int.toNat_natCast, Nat.mul_one, Bool.or_false, Bool.false_or, Bool.or_self, Bool.or_true])
    exact call_fn (hf _ _) fun _ => ⟨rfl, rfl⟩) ?_
  (simp -dsimp only [↓z_put, Nat.reduceLT, ↓z_drwK, ↓z_drw_assign, ↓z_drwS, ↓z_grd_none, ↓z_withE, ↓z_rd_tmp, ↓lkW_cons, ↓reduceIte, ↓z_rd_nil, ↓z_ap_cons, ↓z_ap_nil, ↓z_assign, ↓evW_tmp, and_true, ↓z_exD_all, ↓z_exD_eq, ↓z_drw_nil, ↓z_seq_nrm, ↓z_ret, ↓z_end_rt, resLW, res1W, ↓z_envF_cons, Nat.zero_add, Nat.reduceAdd, ↓z_envF_nil, ↓z_coeL_cons, ↓z_coeL_nil, ↓z_pack1, ↓z_coe_bool, and_self]); (try simp only [Int.toNat_natCast, Nat.mul_one, Bool.or_false, Bool.false_or, Bool.or_self, Bool.or_true])
theorem half_eq {a : Int} (h0 : 0 ≤ a) (h1 : a ≤ 8000000000) : IntKind.i64.wrap (shrI .u64 (IntKind.u64.wrap a) 1) = a / 2 := by
  have e2 : ∀ v, shrI .u64 v 1 = v / 2 := fun v => rfl
  rw [e2, show IntKind.u64.wrap a = a by rw [IntKind.wrap_u64]; omega, IntKind.wrap_i64]; omega
set_option maxRecDepth 100000 in
set_option maxHeartbeats 8000000 in
theorem fn_Search (G : Glob) (p : Int → Bool) (c1 c2 : D) (hf : ∀ x, instP x → Fn G Try.prog 52 [.int .i64 x, c1, c2] (.bool (p x))) (r : Int) (hr : Cut p r) :
    Fn G Try.prog 51 [.int .i64 3600000001, .fn 52 [c1, c2]] (.int .i64 r) := by
  obtain ⟨r1, r2, r3⟩ := hr
  refine Fn.mk (c := _) Try.func51 rfl rfl Try.ntmps51 Try.results51 ?_
  (simp -dsimp only [bodyW, List.length_cons, List.length_nil, Nat.zero_add, Nat.reduceAdd, Nat.reduceLeDiff, wfL, ↓z_seq, ↓z_region, ↓z_ops_plain, ↓z_assign, ↓evW_const, ↓constW_int, inR_i64, Int.reduceNeg, Int.reduceLE, and_self, ↓z_put, Nat.reduceLT, ↓z_ops_nil, ↓z_seq_nrm, ↓z_move, ↓evW_tmp, ↓lkW_cons, reduceCtorEq, ↓reduceIte, ↓z_lk_env, Nat.reduceEqDiff, ↓z_block, ↓z_loop, true_and])
  intro _ _
  refine hold_intro ⟨[], Int × Int, fun ij => ⟨26, 0, [(5, .int .i64 ij.1), (6, .int .i64 ij.2), (0, .int .i64 3600000001), (1, .fn 52 [c1, c2])], []⟩, fun ij => 0 ≤ ij.1 ∧ ij.1 ≤ r ∧ r ≤ ij.2 ∧ ij.2 ≤ 3600000001, fun ij => (ij.2 - ij.1).toNat, ?_, ?_⟩
  · (simp -dsimp only [↓z_ad_nil, ↓z_wk, ↓z_wkE_cons, ↓lkW_cons, Nat.reduceEqDiff, ↓reduceIte, D.int.injEq, true_and, reduceCtorEq, ↓z_lk_env, Nat.zero_add, ↓z_wkE_nil, and_self, and_true, ↓z_wkO_nil]); (try simp only [Int.toNat_natCast, Nat.mul_one, Bool.or_false, Bool.false_or, Bool.or_self, Bool.or_true])
    exact ⟨(0, 3600000001), by simp; omega, rfl, rfl⟩
  rintro ⟨i, j⟩ ⟨h1, h2, h3, h4⟩
  simp only at h1 h2 h3 h4
  (simp -dsimp only [↓z_seq, ↓z_region, ↓z_ops_plain, ↓z_move, ↓evW_tmp, ↓lkW_cons, ↓reduceIte, ↓z_put, Nat.reduceLT, Nat.reduceEqDiff, ↓z_binOp, ↓z_bn_lss, ↓z_ops_nil, ↓z_seq_nrm, ↓z_cond, ↓z_cnd, ↓z_gdt, ↓z_skip, ↓z_block, ↓z_bn_add, ↓wrW_i64, inR_i64, Int.reduceNeg, ↓z_convert, ↓y_ty3, ↓y_ty107, ↓z_cvt_int, ↓z_cv_int, ↓z_cvi_i64_u64, ↓evW_const, ↓constW_int, inR_u64, Int.reduceLE, and_self, ↓z_bn_shr, ↓z_cvi_u64_i64, ↓z_assign, reduceCtorEq, ↓z_callv, ↓z_evL_cons, ↓z_evL_nil, ↓z_fun, ↓z_coeL_cons, ↓z_coe_int, ↓z_coeL_nil, true_and, ↓z_exit, ↓z_seq_ext, ↓z_lp_ext, ↓z_blk_ext, ↓z_ret, ↓z_end_rt, resLW, res1W, ↓z_pack1, D.int.injEq, z_ite])
  refine ⟨fun g => ⟨by omega, ?_⟩, fun g => by omega⟩
  rw [half_eq (by omega) (by omega)]
  refine call_fn (hf _ (by omega)) fun _ => ?_
  (simp -dsimp only [↓z_put, Nat.reduceLT, ↓z_ops_plain, ↓z_unOp, ↓evW_tmp, ↓lkW_cons, ↓reduceIte, ↓z_un_not, ↓z_ops_nil, ↓z_seq_nrm, ↓z_cond, ↓z_cnd, ↓z_gnt, ↓z_region, ↓z_move, Nat.reduceEqDiff, ↓z_binOp, ↓evW_const, ↓constW_int, inR_i64, Int.reduceNeg, Int.reduceLE, and_self, ↓z_bn_add, ↓wrW_i64, ↓z_assign, ↓z_blk_nrm, ↓z_lp_nrm, ↓z_wk, ↓z_wkE_cons, D.int.injEq, true_and, reduceCtorEq, ↓z_wkE_nil, and_true, ↓z_wkO_nil, z_gvarf]); (try simp only [Int.toNat_natCast, Nat.mul_one, Bool.or_false, Bool.false_or, Bool.or_self, Bool.or_true])
  have hm := r3 ((i + j) / 2) (by omega) (by omega)
  refine ⟨fun g2 => ⟨by omega, ((i + j) / 2 + 1, j), ⟨by simp only; omega, ?_, by simp only; omega, by simp only; omega⟩, by simp only; omega, rfl, rfl⟩, fun g2 => ⟨(i, (i + j) / 2), ⟨by simp only; omega, by simp only; omega, ?_, by simp only; omega⟩, by simp only; omega, rfl, rfl⟩⟩
  · have : ¬ r ≤ (i + j) / 2 := fun h => by rw [hm.2 h] at g2; cases g2
    simp only; omega
  · exact hm.1 g2
def firE (rate due : Int) (rs : List Rd) : Int := if chkC rate rs ≠ 0 then chkC rate rs else if ¬ instP due then 3 else 0
def firN (rate due : Int) (rs : List Rd) (r : Int) : Int := if firE rate due rs = 0 then r else 0
theorem fir_c {rate due r : Int} {rs : List Rd} (h : chkC rate rs ≠ 0) : firE rate due rs = chkC rate rs ∧ firN rate due rs r = 0 := by
  have e : firE rate due rs = chkC rate rs := by unfold firE; rw [if_pos h]
  unfold firN; rw [e, if_neg h]; exact ⟨rfl, rfl⟩
theorem fir_3 {rate due r : Int} {rs : List Rd} (h : chkC rate rs = 0) (h2 : ¬ instP due) : firE rate due rs = 3 ∧ firN rate due rs r = 0 := by
  have e : firE rate due rs = 3 := by unfold firE; rw [if_neg (by omega), if_pos h2]
  unfold firN; rw [e, if_neg (by decide)]; exact ⟨rfl, rfl⟩
theorem fir_0 {rate due r : Int} {rs : List Rd} (h : chkC rate rs = 0) (h2 : instP due) : firE rate due rs = 0 ∧ firN rate due rs r = r := by
  have e : firE rate due rs = 0 := by unfold firE; rw [if_neg (by omega), if_neg (fun hn => hn h2)]
  unfold firN; rw [e, if_pos rfl]; exact ⟨rfl, rfl⟩
theorem fir_y {rate due : Int} {rs : List Rd} (h : firE rate due rs = 0) : chkC rate rs = 0 ∧ instP due := by
  by_cases hc : chkC rate rs = 0
  · by_cases hd : instP due
    · exact ⟨hc, hd⟩
    · have := (fir_3 (r := 0) hc hd).1; omega
  · have := (fir_c (due := due) (r := 0) hc).1; omega
set_option maxRecDepth 100000 in
set_option maxHeartbeats 8000000 in
theorem fn_first (G : Glob) (rate : Int) (rs : List Rd) (due : Int) (f : FuncId) (q : Int → Int → Bool) (hf : ∀ lo hi, Fn G Try.prog f [.int .i64 lo, .int .i64 hi, .rop [.int .i64 due] 0] (.bool (q lo hi))) (r : Int) (hr : chkC rate rs = 0 → Cut (fun x => q (loB rate x rs) (hiB rate x rs)) r) :
    Fn G Try.prog 43 [.agg (clkA rate rs), .int .i64 due, .fn f [.rop [.int .i64 due] 0]] (.tup [.int .i64 (firN rate due rs r), .int .i64 (firE rate due rs)]) := by
  unfold clkA
  refine Fn.mk (c := _) Try.func43 rfl rfl Try.ntmps43 Try.results43 ?_
  (simp -dsimp only [bodyW, List.length_cons, List.length_nil, Nat.zero_add, Nat.reduceAdd, Nat.reduceLeDiff, wfL, ↓z_seq, ↓z_region, ↓z_ops_plain, ↓z_box, ↓evW_tmp, ↓z_lk_env, ↓reduceIte, ↓z_cl_agg, ↓z_nmC_cons, ↓z_mn'_int, ↓z_mn'_sl, ↓z_nmC_nil, and_self, ↓z_new, ↓z_nm_nil, Nat.reduceLT, ↓z_pg_env, ↓z_mn_agg, ↓z_mn_int, ↓z_mn_fn, ↓z_pg_env0, ↓z_put, ↓lkW_cons, Nat.reduceEqDiff, reduceCtorEq, ↓z_cl_fn, ↓z_mn'_fn, ↓z_nm_cons, ↓z_pg_cons, ↓z_mn_ptr, ↓z_pg_nil, ↓z_assign, ↓evW_const, ↓constW_int, inR_i64, Int.reduceNeg, Int.reduceLE, ↓z_ops_nil, ↓z_seq_nrm, ↓z_load, ↓y_ty24, ↓y_sz24, ↓z_agTy_st, ↓loadW_ptr, ↓lkoW_cons, ↓z_rd_t, ↓z_sub_c, ↓z_sub_nil, ↓z_callv, ↓evW_func, ↓z_evL_cons, ↓z_evL_nil, ↓z_fun0, ↓z_coeL_cons, ↓z_coe_oag, ↓z_coeC_cons, ↓z_coeS_int, ↓z_coeS_sl, ↓z_coeC_nil, ↓z_coeL_nil, true_and])
  intro _ _ _
  refine call_fn (fn_Check G rate rs) fun _ => ?_
  (simp -dsimp only [↓z_put, Nat.reduceLT, ↓z_ops_plain, ↓z_assign, ↓evW_tmp, ↓lkW_cons, ↓reduceIte, ↓z_ops_nil, ↓z_seq_nrm, ↓z_seq, ↓z_region, ↓z_move, ↓z_binOp, ↓evW_const, ↓constW_int, inR_i64, Int.reduceNeg, Int.reduceLE, and_self, ↓z_bn_neq, ↓z_cond, ↓z_cnd, ↓z_gdt, ne_eq, Nat.reduceEqDiff, ↓z_ret, ↓z_seq_rt, ↓z_end_rt, resLW, res1W, Nat.zero_add, Nat.reduceAdd, ↓z_coeL_cons, ↓z_coeL_nil, ↓z_pack2, D.tup.injEq, List.cons.injEq, and_true, ↓z_coe_int, D.int.injEq, true_and, ↓z_skip, reduceCtorEq, ↓z_buildSlice, ↓y_ty99, ↓z_slTy, ↓y_sz3, Nat.mul_one, Nat.reduceLeDiff, maxLen_lit, ↓y_zr3, List.length_cons, List.length_nil, ↓z_repL_s, ↓z_repL_0, ↓z_cat_nil_r, ↓z_bld_cons, ↓z_cl_int, ↓spsW_cons, ↓drW_cons, ↓drW_nil, ↓z_bld_nil, ↓z_allP_cons, ↓z_isP_int, ↓z_allP_nil, ↓z_callv, ↓evW_func, ↓z_evL_cons, ↓z_evL_nil, ↓z_fun0, ↓z_coe_slx, z_ite, Classical.not_not])
  refine ⟨fun hc => ⟨(fir_c (r := r) hc).2.symm, (fir_c (r := r) hc).1.symm⟩, fun hc => call_fn (fn_instants1 G due) fun _ => ?_⟩
  (simp -dsimp only [↓z_put, Nat.reduceLT, ↓z_ops_plain, ↓z_unOp, ↓evW_tmp, ↓lkW_cons, ↓reduceIte, ↓z_un_not, ↓z_ops_nil, ↓z_seq_nrm, ↓z_cond, ↓z_cnd, ↓z_gnt, ↓z_gdf, ↓z_skip, ↓z_seq, ↓z_region, ↓z_makeFunc, ↓z_evL_cons, Nat.reduceEqDiff, ↓z_evL_nil, ↓z_callv, ↓evW_func, ↓evW_const, ↓constW_int, inR_i64, Int.reduceNeg, Int.reduceLE, and_self, ↓z_fun0, ↓z_coeL_cons, ↓z_coe_int, ↓z_coe_ofn, ↓z_coeC_cons, ↓z_coeS_ptr, ↓lkoW_cons, Nat.zero_add, ↓z_allP_cons, ↓z_isP_fn, ↓z_allP_nil, reduceCtorEq, ↓z_isP_int, ↓z_isP_sl, ↓z_coeC_nil, ↓z_coeL_nil, true_and, ↓z_assign, ↓z_ret, ↓z_seq_rt, ↓z_end_rt, resLW, res1W, ne_eq, Nat.reduceAdd, ↓z_pack2, D.tup.injEq, List.cons.injEq, and_true, D.int.injEq, z_ite])
  refine ⟨fun hd => ?_, fun hd => ⟨(fir_3 (r := r) hc hd).2.symm, (fir_3 (r := r) hc hd).1.symm⟩⟩
  have hs := fn_Search G (fun x => q (loB rate x rs) (hiB rate x rs)) (.rop [.fn f [.rop [.int .i64 due] 0]] 0) (.rop (clkA rate rs) 0) (fun x hx => fn_first1 G rate rs due f q hf x hc hx) r (hr hc)
  unfold clkA at hs
  refine call_fnL (d := .int .i64 r) hs rfl fun _ => ?_
  (simp -dsimp only [↓z_put, Nat.reduceLT, ↓z_ops_plain, ↓z_assign, ↓evW_tmp, ↓lkW_cons, ↓reduceIte, ↓evW_const, ↓constW_int, inR_i64, Int.reduceNeg, Int.reduceLE, and_self, ↓z_ops_nil, ↓z_seq_nrm, ↓z_ret, ↓z_end_rt, resLW, res1W, Nat.zero_add, ne_eq, Nat.reduceAdd, ↓z_coeL_cons, ↓z_coeL_nil, ↓z_pack2, D.tup.injEq, List.cons.injEq, and_true, ↓z_coe_int, D.int.injEq, true_and, Nat.reduceEqDiff]); (try simp only [Int.toNat_natCast, Nat.mul_one, Bool.or_false, Bool.false_or, Bool.or_self, Bool.or_true])
  exact ⟨(fir_0 (r := r) hc hd).2.symm, (fir_0 (r := r) hc hd).1.symm⟩
def latE (rate due : Int) (rs : List Rd) (r : Int) : Int := if firE rate due rs ≠ 0 then firE rate due rs else if r = 0 then 8 else 0
def latN (rate due : Int) (rs : List Rd) (r : Int) : Int := if latE rate due rs r = 0 then r - 1 else 0
def earE (rate due : Int) (rs : List Rd) (r : Int) : Int := if firE rate due rs ≠ 0 then firE rate due rs else if 3600000000 < r then 8 else 0
def earN (rate due : Int) (rs : List Rd) (r : Int) : Int := if earE rate due rs r = 0 then r else 0
theorem lat_c {rate due r : Int} {rs : List Rd} (h : firE rate due rs ≠ 0) : latE rate due rs r = firE rate due rs ∧ latN rate due rs r = 0 := by
  have e : latE rate due rs r = firE rate due rs := by unfold latE; rw [if_pos h]
  unfold latN; rw [e, if_neg h]; exact ⟨rfl, rfl⟩
theorem lat_8 {rate due r : Int} {rs : List Rd} (h : firE rate due rs = 0) (h2 : r = 0) : latE rate due rs r = 8 ∧ latN rate due rs r = 0 := by
  have e : latE rate due rs r = 8 := by unfold latE; rw [if_neg (by omega), if_pos h2]
  unfold latN; rw [e, if_neg (by decide)]; exact ⟨rfl, rfl⟩
theorem lat_0 {rate due r : Int} {rs : List Rd} (h : firE rate due rs = 0) (h2 : ¬ r = 0) : latE rate due rs r = 0 ∧ latN rate due rs r = r - 1 := by
  have e : latE rate due rs r = 0 := by unfold latE; rw [if_neg (by omega), if_neg h2]
  unfold latN; rw [e, if_pos rfl]; exact ⟨rfl, rfl⟩
theorem ear_c {rate due r : Int} {rs : List Rd} (h : firE rate due rs ≠ 0) : earE rate due rs r = firE rate due rs ∧ earN rate due rs r = 0 := by
  have e : earE rate due rs r = firE rate due rs := by unfold earE; rw [if_pos h]
  unfold earN; rw [e, if_neg h]; exact ⟨rfl, rfl⟩
theorem ear_8 {rate due r : Int} {rs : List Rd} (h : firE rate due rs = 0) (h2 : 3600000000 < r) : earE rate due rs r = 8 ∧ earN rate due rs r = 0 := by
  have e : earE rate due rs r = 8 := by unfold earE; rw [if_neg (by omega), if_pos h2]
  unfold earN; rw [e, if_neg (by decide)]; exact ⟨rfl, rfl⟩
theorem ear_0 {rate due r : Int} {rs : List Rd} (h : firE rate due rs = 0) (h2 : ¬ 3600000000 < r) : earE rate due rs r = 0 ∧ earN rate due rs r = r := by
  have e : earE rate due rs r = 0 := by unfold earE; rw [if_neg (by omega), if_neg h2]
  unfold earN; rw [e, if_pos rfl]; exact ⟨rfl, rfl⟩
/-- Latest's and Earliest's conditions. -/
abbrev latQ (due _lo hi : Int) : Bool := decide (due < hi)
abbrev earQ (due lo _hi : Int) : Bool := decide (due ≤ lo)
abbrev latP (rate due : Int) (rs : List Rd) (x : Int) : Bool := latQ due (loB rate x rs) (hiB rate x rs)
abbrev earP (rate due : Int) (rs : List Rd) (x : Int) : Bool := earQ due (loB rate x rs) (hiB rate x rs)
set_option maxRecDepth 100000 in
set_option maxHeartbeats 8000000 in
theorem fn_Latest (G : Glob) (rate : Int) (rs : List Rd) (due r : Int) (hr : chkC rate rs = 0 → Cut (latP rate due rs) r) : Fn G Try.prog 28 [.agg (clkA rate rs), .int .i64 due] (.tup [.int .i64 (latN rate due rs r), .int .i64 (latE rate due rs r)]) := by
  have hf := fn_first G rate rs due 44 (latQ due) (fun lo hi => fn_lat1 G due lo hi) r hr
  unfold clkA at hf ⊢
  refine Fn.mk (c := _) Try.func28 rfl rfl Try.ntmps28 Try.results28 ?_
  (simp -dsimp only [bodyW, List.length_cons, List.length_nil, Nat.zero_add, Nat.reduceAdd, Nat.reduceLeDiff, wfL, ↓z_seq, ↓z_region, ↓z_ops_plain, ↓z_box, ↓evW_tmp, ↓z_lk_env, ↓reduceIte, ↓z_cl_agg, ↓z_nmC_cons, ↓z_mn'_int, ↓z_mn'_sl, ↓z_nmC_nil, and_self, ↓z_new, ↓z_nm_nil, Nat.reduceLT, ↓z_pg_env, ↓z_mn_agg, ↓z_mn_int, ↓z_pg_env0, ↓z_put, ↓lkW_cons, Nat.reduceEqDiff, reduceCtorEq, ↓z_cl_int, ↓z_nm_cons, ↓z_pg_cons, ↓z_mn_ptr, ↓z_pg_nil, ↓z_assign, ↓evW_const, ↓constW_int, inR_i64, Int.reduceNeg, Int.reduceLE, ↓z_ops_nil, ↓z_seq_nrm, ↓z_load, ↓y_ty24, ↓y_sz24, ↓z_agTy_st, ↓loadW_ptr, ↓lkoW_cons, ↓z_rd_t, ↓z_sub_c, ↓z_sub_nil, ↓y_ty3, ↓y_sz3, ↓z_agTy_int, ↓z_rd_f, ↓nthW_cons, ↓z_makeFunc, ↓z_evL_cons, ↓z_evL_nil, ↓z_callv, ↓evW_func, ↓z_fun0, ↓z_coeL_cons, ↓z_coe_oag, ↓z_coeC_cons, ↓z_coeS_int, ↓z_coeS_sl, ↓z_coeC_nil, ↓z_coe_int, ↓z_coe_ofn, ↓z_coeS_ptr, ↓z_allP_cons, ↓z_isP_int, ↓z_allP_nil, ↓z_coeL_nil, true_and])
  intro _ _
  refine call_fnL (d := .tup [.int .i64 (firN rate due rs r), .int .i64 (firE rate due rs)]) hf (by simp [flD, flA, flS]) fun _ => ?_
  (simp -dsimp only [↓z_put, Nat.reduceLT, ↓z_ops_plain, ↓z_move, ↓evW_tmp, ↓lkW_cons, ↓reduceIte, ↓z_extract, ↓z_ex, ↓nthW_cons, Nat.reduceEqDiff, reduceCtorEq, Nat.reduceSub, ↓z_assign, ↓z_ops_nil, ↓z_seq_nrm, ↓z_seq, ↓z_block, ↓z_region, ↓z_binOp, ↓evW_const, ↓constW_int, inR_i64, Int.reduceNeg, Int.reduceLE, and_self, ↓z_bn_neq, ↓z_cond, ↓z_cnd, ↓z_gdt, ne_eq, ↓z_ret, ↓z_blk_rt, ↓z_seq_rt, ↓z_end_rt, resLW, res1W, Nat.zero_add, ↓z_coeL_cons, Nat.reduceAdd, ↓z_coeL_nil, ↓z_pack2, D.tup.injEq, List.cons.injEq, and_true, ↓z_coe_int, D.int.injEq, true_and, ↓z_bn_eql, ↓z_skip, ↓z_blk_nrm, ↓z_bn_sub, ↓wrW_i64, z_ite, Classical.not_not]); (try simp only [Int.toNat_natCast, Nat.mul_one, Bool.or_false, Bool.false_or, Bool.or_self, Bool.or_true])
  refine ⟨fun h => ⟨(lat_c (r := r) h).2.symm, (lat_c (r := r) h).1.symm⟩, fun h => ?_⟩
  have e : firN rate due rs r = r := by unfold firN; rw [if_pos h]
  rw [e]
  refine ⟨fun h2 => ⟨(lat_8 (r := r) h h2).2.symm, (lat_8 (r := r) h h2).1.symm⟩, fun h2 => ?_⟩
  obtain ⟨e1, e2⟩ := lat_0 (r := r) h h2
  rw [e1, e2]
  exact ⟨by have := (hr (fir_y h).1).1; have := (hr (fir_y h).1).2.1; omega, rfl, rfl⟩
set_option maxRecDepth 100000 in
set_option maxHeartbeats 8000000 in
theorem fn_Earliest (G : Glob) (rate : Int) (rs : List Rd) (due r : Int) (hr : chkC rate rs = 0 → Cut (earP rate due rs) r) : Fn G Try.prog 29 [.agg (clkA rate rs), .int .i64 due] (.tup [.int .i64 (earN rate due rs r), .int .i64 (earE rate due rs r)]) := by
  have hf := fn_first G rate rs due 45 (earQ due) (fun lo hi => fn_ear1 G due lo hi) r hr
  unfold clkA at hf ⊢
  refine Fn.mk (c := _) Try.func29 rfl rfl Try.ntmps29 Try.results29 ?_
  (simp -dsimp only [bodyW, List.length_cons, List.length_nil, Nat.zero_add, Nat.reduceAdd, Nat.reduceLeDiff, wfL, ↓z_seq, ↓z_region, ↓z_ops_plain, ↓z_box, ↓evW_tmp, ↓z_lk_env, ↓reduceIte, ↓z_cl_agg, ↓z_nmC_cons, ↓z_mn'_int, ↓z_mn'_sl, ↓z_nmC_nil, and_self, ↓z_new, ↓z_nm_nil, Nat.reduceLT, ↓z_pg_env, ↓z_mn_agg, ↓z_mn_int, ↓z_pg_env0, ↓z_put, ↓lkW_cons, Nat.reduceEqDiff, reduceCtorEq, ↓z_cl_int, ↓z_nm_cons, ↓z_pg_cons, ↓z_mn_ptr, ↓z_pg_nil, ↓z_assign, ↓evW_const, ↓constW_int, inR_i64, Int.reduceNeg, Int.reduceLE, ↓z_ops_nil, ↓z_seq_nrm, ↓z_load, ↓y_ty24, ↓y_sz24, ↓z_agTy_st, ↓loadW_ptr, ↓lkoW_cons, ↓z_rd_t, ↓z_sub_c, ↓z_sub_nil, ↓y_ty3, ↓y_sz3, ↓z_agTy_int, ↓z_rd_f, ↓nthW_cons, ↓z_makeFunc, ↓z_evL_cons, ↓z_evL_nil, ↓z_callv, ↓evW_func, ↓z_fun0, ↓z_coeL_cons, ↓z_coe_oag, ↓z_coeC_cons, ↓z_coeS_int, ↓z_coeS_sl, ↓z_coeC_nil, ↓z_coe_int, ↓z_coe_ofn, ↓z_coeS_ptr, ↓z_allP_cons, ↓z_isP_int, ↓z_allP_nil, ↓z_coeL_nil, true_and])
  intro _ _
  refine call_fnL (d := .tup [.int .i64 (firN rate due rs r), .int .i64 (firE rate due rs)]) hf (by simp [flD, flA, flS]) fun _ => ?_
  (simp -dsimp only [↓z_put, Nat.reduceLT, ↓z_ops_plain, ↓z_move, ↓evW_tmp, ↓lkW_cons, ↓reduceIte, ↓z_extract, ↓z_ex, ↓nthW_cons, Nat.reduceEqDiff, reduceCtorEq, Nat.reduceSub, ↓z_assign, ↓z_ops_nil, ↓z_seq_nrm, ↓z_seq, ↓z_block, ↓z_region, ↓z_binOp, ↓evW_const, ↓constW_int, inR_i64, Int.reduceNeg, Int.reduceLE, and_self, ↓z_bn_neq, ↓z_cond, ↓z_cnd, ↓z_gdt, ne_eq, ↓z_ret, ↓z_blk_rt, ↓z_seq_rt, ↓z_end_rt, resLW, res1W, Nat.zero_add, ↓z_coeL_cons, Nat.reduceAdd, ↓z_coeL_nil, ↓z_pack2, D.tup.injEq, List.cons.injEq, and_true, ↓z_coe_int, D.int.injEq, true_and, ↓z_bn_gtr, ↓z_skip, ↓z_blk_nrm, z_ite, Classical.not_not]); (try simp only [Int.toNat_natCast, Nat.mul_one, Bool.or_false, Bool.false_or, Bool.or_self, Bool.or_true])
  refine ⟨fun h => ⟨(ear_c (r := r) h).2.symm, (ear_c (r := r) h).1.symm⟩, fun h => ?_⟩
  have e : firN rate due rs r = r := by unfold firN; rw [if_pos h]
  rw [e]
  refine ⟨fun h2 => ⟨(ear_8 (r := r) h h2).2.symm, (ear_8 (r := r) h h2).1.symm⟩, fun h2 => ?_⟩
  obtain ⟨e1, e2⟩ := ear_0 (r := r) h h2
  rw [e1, e2]
  exact ⟨rfl, rfl⟩
set_option maxRecDepth 100000 in
set_option maxHeartbeats 8000000 in
theorem fn_wrong (G : Glob) (rate : Int) (rs : List Rd) (due : Int) : Fn G Try.prog 46 [.agg (clkA rate rs), .int .i64 due] (.int .i64 (firE rate due rs)) := by
  unfold clkA
  refine Fn.mk (c := _) Try.func46 rfl rfl Try.ntmps46 Try.results46 ?_
  (simp -dsimp only [bodyW, List.length_cons, List.length_nil, Nat.zero_add, Nat.reduceAdd, Nat.reduceLeDiff, wfL, ↓z_seq, ↓z_region, ↓z_ops_plain, ↓z_box, ↓evW_tmp, ↓z_lk_env, ↓reduceIte, ↓z_cl_agg, ↓z_nmC_cons, ↓z_mn'_int, ↓z_mn'_sl, ↓z_nmC_nil, and_self, ↓z_new, ↓z_nm_nil, Nat.reduceLT, ↓z_pg_env, ↓z_mn_agg, ↓z_mn_int, ↓z_pg_env0, ↓z_put, ↓z_assign, ↓evW_const, ↓constW_int, inR_i64, Int.reduceNeg, Int.reduceLE, ↓z_ops_nil, ↓z_seq_nrm, ↓z_load, ↓lkW_cons, Nat.reduceEqDiff, ↓y_ty24, ↓y_sz24, ↓z_agTy_st, ↓loadW_ptr, ↓lkoW_cons, ↓z_rd_t, ↓z_sub_c, ↓z_sub_nil, ↓z_callv, ↓evW_func, ↓z_evL_cons, ↓z_evL_nil, ↓z_fun0, ↓z_coeL_cons, ↓z_coe_oag, ↓z_coeC_cons, ↓z_coeS_int, ↓z_coeS_sl, ↓z_coeC_nil, ↓z_coeL_nil, true_and])
  intro _ _
  refine call_fn (fn_refCheck G rate rs) fun _ => ?_
  (simp -dsimp only [↓z_put, Nat.reduceLT, ↓z_ops_plain, ↓z_assign, ↓evW_tmp, ↓lkW_cons, ↓reduceIte, ↓z_ops_nil, ↓z_seq_nrm, ↓z_seq, ↓z_region, ↓z_move, ↓z_binOp, ↓evW_const, ↓constW_int, inR_i64, Int.reduceNeg, Int.reduceLE, and_self, ↓z_bn_neq, ↓z_cond, ↓z_cnd, ↓z_gdt, ne_eq, Nat.reduceEqDiff, ↓z_ret, ↓z_seq_rt, ↓z_end_rt, resLW, res1W, Nat.zero_add, ↓z_coeL_cons, ↓z_coeL_nil, ↓z_pack1, ↓z_coe_int, D.int.injEq, true_and, ↓z_skip, reduceCtorEq, ↓z_callv, ↓evW_func, ↓z_evL_cons, ↓z_evL_nil, ↓z_fun0, z_ite, Classical.not_not])
  refine ⟨fun hc => (fir_c (r := 0) hc).1.symm, fun hc => call_fn (fn_instant G due) fun _ => ?_⟩
  (simp -dsimp only [↓z_put, Nat.reduceLT, ↓z_ops_plain, ↓z_assign, ↓evW_tmp, ↓lkW_cons, ↓reduceIte, ↓z_ops_nil, ↓z_seq_nrm, ↓z_seq, ↓z_region, ↓z_move, ↓z_unOp, ↓z_un_not, ↓z_cond, ↓z_cnd, ↓z_gnt, ↓z_gdf, ↓z_skip, ↓evW_const, ↓constW_int, inR_i64, Int.reduceNeg, Int.reduceLE, and_self, ↓z_ret, ↓z_end_rt, resLW, res1W, ne_eq, Nat.zero_add, ↓z_coeL_cons, ↓z_coeL_nil, ↓z_pack1, ↓z_coe_int, D.int.injEq, true_and, ↓z_seq_rt, z_ite]); (try simp only [Int.toNat_natCast, Nat.mul_one, Bool.or_false, Bool.false_or, Bool.or_self, Bool.or_true])
  exact ⟨fun hd => (fir_0 (r := 0) hc hd).1.symm, fun hd => (fir_3 (r := 0) hc hd).1.symm⟩
set_option maxRecDepth 100000 in
set_option maxHeartbeats 8000000 in
theorem fn_refLatest (G : Glob) (rate : Int) (rs : List Rd) (due r : Int) (hr : chkC rate rs = 0 → Cut (latP rate due rs) r) : Fn G Try.prog 30 [.agg (clkA rate rs), .int .i64 due] (.agg [.int .i64 (latN rate due rs r), .int .i64 (latE rate due rs r)]) := by
  have hb := fun x hc hx => fn_Bounds G rate x rs hc hx
  have hw := fn_wrong G rate rs due
  unfold clkA at hb hw ⊢
  refine Fn.mk (c := _) Try.func30 rfl rfl Try.ntmps30 Try.results30 ?_
  (simp -dsimp only [bodyW, List.length_cons, List.length_nil, Nat.zero_add, Nat.reduceAdd, Nat.reduceLeDiff, wfL, ↓z_seq, ↓z_region, ↓z_ops_plain, ↓z_box, ↓evW_tmp, ↓z_lk_env, ↓reduceIte, ↓z_cl_agg, ↓z_nmC_cons, ↓z_mn'_int, ↓z_mn'_sl, ↓z_nmC_nil, and_self, ↓z_new, ↓z_nm_nil, Nat.reduceLT, ↓z_pg_env, ↓z_mn_agg, ↓z_mn_int, ↓z_pg_env0, ↓z_put, ↓z_alloc, ↓y_zr65, ↓z_nm_cons, ↓z_pg_cons, ↓z_mn_ptr, reduceCtorEq, ↓z_pg_nil, ↓z_ops_nil, ↓z_seq_nrm, ↓z_load, ↓lkW_cons, Nat.reduceEqDiff, ↓y_ty24, ↓y_sz24, ↓z_agTy_st, ↓loadW_ptr, ↓lkoW_cons, ↓z_rd_t, ↓z_sub_c, ↓z_sub_nil, ↓z_move, ↓z_callv, ↓evW_func, ↓z_evL_cons, ↓z_evL_nil, ↓z_fun0, ↓z_coeL_cons, ↓z_coe_oag, ↓z_coeC_cons, ↓z_coeS_int, ↓z_coeS_sl, ↓z_coeC_nil, ↓z_coe_int, ↓z_coeL_nil, true_and])
  intro _ _
  refine call_fn hw fun _ => ?_
  (simp -dsimp only [↓z_put, Nat.reduceLT, ↓z_ops_plain, ↓z_assign, ↓evW_tmp, ↓lkW_cons, ↓reduceIte, ↓z_ops_nil, ↓z_seq_nrm, ↓z_seq, ↓z_region, ↓z_move, ↓z_binOp, ↓evW_const, ↓constW_int, inR_i64, Int.reduceNeg, Int.reduceLE, and_self, ↓z_bn_neq, ↓z_cond, ↓z_cnd, ↓z_gdt, ne_eq, Nat.reduceEqDiff, ↓z_build, ↓y_ty65, ↓z_blTy_st, ↓y_zr65, ↓z_bld_cons, ↓y_fl65x1, ↓y_sz32, ↓z_cl_int, List.length_cons, List.length_nil, Nat.zero_add, Nat.reduceAdd, Nat.reduceLeDiff, ↓spsW_cons, reduceCtorEq, Nat.reduceSub, ↓drW_cons, ↓drW_nil, ↓z_cat_nil_r, ↓z_bld_nil, ↓z_store, ↓y_sz65, ↓z_cl_oag, ↓z_store_ptr, ↓lkoW_cons, ↓z_so_cons, ↓z_put_none, ↓z_ret, ↓z_seq_rt, ↓z_end_rt, resLW, res1W, ↓z_agTy_st, ↓z_coeL_cons, ↓z_coeL_nil, ↓z_pack1, ↓loadW_ptr, ↓z_rd_t, ↓z_sub_c, ↓z_sub_nil, ↓z_coe_oag, ↓z_coeC_cons, ↓z_coeS_int, ↓z_coeC_nil, D.agg.injEq, List.cons.injEq, D.int.injEq, true_and, and_true, ↓z_skip, ↓z_load, ↓y_ty24, ↓y_sz24, ↓z_callv, ↓evW_func, ↓z_evL_cons, ↓z_evL_nil, ↓z_fun0, ↓z_coeS_sl, ↓z_coe_int, z_ite, Classical.not_not])
  refine ⟨fun h => ⟨rfl, (lat_c (r := r) h).2.symm, (lat_c (r := r) h).1.symm⟩, fun h => ?_⟩
  obtain ⟨hc, hd⟩ := fir_y h
  obtain ⟨r1, r2, r3⟩ := hr hc
  refine call_fn (hb 0 hc (by decide)) fun _ => ?_
  (simp -dsimp only [↓z_put, Nat.reduceLT, ↓z_ops_plain, ↓z_alloc, ↓y_zr27, ↓z_new, ↓z_nm_cons, ↓z_nmC_cons, ↓z_mn'_int, ↓z_nmC_nil, and_self, ↓z_mn'_sl, ↓z_nm_nil, Nat.zero_add, Nat.reduceAdd, ↓z_pg_cons, ↓z_mn_agg, ↓z_mn_oag, ↓z_mnL_int, ↓z_mnL_sl, ↓z_mnL_nil, ↓z_mn_bool, ↓z_mn_int, ↓z_mn_ptr, Nat.reduceEqDiff, ↓reduceIte, reduceCtorEq, ↓z_pg_nil, ↓z_store, ↓evW_tmp, ↓lkW_cons, ↓y_sz27, ↓z_cl_agg, List.length_cons, List.length_nil, ↓z_store_ptr, ↓lkoW_cons, Nat.reduceLeDiff, ↓spsW_cons, ↓drW_cons, Nat.reduceSub, ↓drW_nil, ↓z_cat_nil_r, ↓z_so_cons, ↓z_put_none, ↓z_ops_nil, ↓z_seq_nrm, ↓z_seq, ↓z_region, ↓z_fieldAddr, ↓y_fl27x1, ↓y_sz3, ne_eq, not_false_eq_true, ↓z_fa_ptr, ↓z_load, ↓y_ty3, ↓z_agTy_int, ↓loadW_ptr, ↓z_rd_f, ↓nthW_cons, ↓z_move, ↓z_binOp, ↓z_bn_gtr, ↓z_cond, ↓z_cnd, ↓z_gdt, ↓z_build, ↓y_ty65, ↓z_blTy_st, ↓y_zr65, ↓z_bld_cons, ↓y_fl65x1, ↓y_sz32, ↓evW_const, ↓constW_int, inR_i64, Int.reduceNeg, Int.reduceLE, ↓z_cl_int, ↓z_bld_nil, ↓y_sz65, ↓z_cl_oag, ↓z_ret, ↓z_seq_rt, ↓z_end_rt, resLW, res1W, ↓z_agTy_st, ↓z_coeL_cons, ↓z_coeL_nil, ↓z_pack1, ↓z_rd_t, ↓z_sub_c, ↓z_sub_nil, ↓z_coe_oag, ↓z_coeC_cons, ↓z_coeS_int, ↓z_coeC_nil, D.agg.injEq, List.cons.injEq, D.int.injEq, true_and, and_true, ↓z_skip, ↓z_assign, ↓z_block, ↓z_loop, z_ite])
  have p0 := r3 0 (by decide) (by decide)
  have p0 : due < hiB rate 0 rs ↔ r ≤ 0 := by simpa using p0
  refine ⟨fun g => ⟨rfl, (lat_8 (r := r) h (by omega)).2.symm, (lat_8 (r := r) h (by omega)).1.symm⟩, fun g => ?_⟩
  obtain ⟨e1, e2⟩ := lat_0 (r := r) h (by omega)
  rw [e1, e2]
  refine hold_intro ⟨[], Int × Int, fun ij => ⟨45, 3, [(7, .int .i64 ij.1), (8, .int .i64 ij.2), (2, .ptr 0 0), (4, .ptr 1 0), (1, .int .i64 due)], [(1, [.int .i64 0, .int .i64 0]), (0, clkA rate rs)]⟩, fun ij => 0 ≤ ij.1 ∧ ij.1 < r ∧ r ≤ ij.2 + 1 ∧ ij.2 ≤ 3600000000, fun ij => (ij.2 - ij.1).toNat, ?_, ?_⟩
  · unfold clkA; (simp -dsimp only [↓z_ad_nil, ↓z_wk, ↓z_wkE_cons, ↓lkW_cons, Nat.reduceEqDiff, ↓reduceIte, D.int.injEq, true_and, Nat.zero_add, reduceCtorEq, ↓z_wkE_nil, and_self, and_true, ↓z_wkO_cons, ↓lkoW_cons, Nat.reduceAdd, ↓z_wkO_nil]); (try simp only [Int.toNat_natCast, Nat.mul_one, Bool.or_false, Bool.false_or, Bool.or_self, Bool.or_true])
    exact ⟨(0, 3600000000), by simp; omega, rfl, rfl⟩
  rintro ⟨i, j⟩ ⟨h1, h2, h3, h4⟩
  simp only at h1 h2 h3 h4
  unfold clkA
  (simp -dsimp only [↓z_seq, ↓z_region, ↓z_ops_plain, ↓z_move, ↓evW_tmp, ↓lkW_cons, ↓reduceIte, ↓z_put, Nat.reduceLT, Nat.reduceEqDiff, ↓z_binOp, ↓z_bn_lss, ↓z_ops_nil, ↓z_seq_nrm, ↓z_cond, ↓z_cnd, ↓z_gdt, ↓z_skip, ↓z_block, ↓z_bn_add, ↓wrW_i64, inR_i64, Int.reduceNeg, ↓evW_const, ↓constW_int, Int.reduceLE, and_self, ↓z_bn_quo, ↓z_quo_i64, ne_eq, Int.reduceEq, not_false_eq_true, ↓z_assign, ↓z_load, ↓y_ty24, ↓y_sz24, ↓z_agTy_st, ↓loadW_ptr, ↓lkoW_cons, reduceCtorEq, ↓z_rd_t, Nat.zero_add, List.length_cons, List.length_nil, Nat.reduceAdd, Nat.reduceLeDiff, ↓z_sub_c, ↓z_sub_nil, ↓z_callv, ↓evW_func, ↓z_evL_cons, ↓z_evL_nil, ↓z_fun0, ↓z_coeL_cons, ↓z_coe_oag, ↓z_coeC_cons, ↓z_coeS_int, ↓z_coeS_sl, ↓z_coeC_nil, ↓z_coe_int, ↓z_coeL_nil, true_and, ↓z_exit, ↓z_seq_ext, ↓z_lp_ext, ↓z_blk_ext, ↓z_build, ↓y_ty65, ↓z_blTy_st, ↓y_zr65, ↓z_bld_cons, ↓y_fl65x0, ↓y_sz3, ↓z_cl_int, ↓spsW_cons, ↓drW_cons, Nat.reduceSub, ↓catW_cons, ↓catW_nil, ↓z_bld_nil, ↓z_store, ↓y_sz65, ↓z_cl_oag, ↓z_store_ptr, ↓drW_nil, ↓z_cat_nil_r, ↓z_so_cons, ↓z_put_none, ↓z_ret, ↓z_end_rt, resLW, res1W, ↓z_pack1, D.agg.injEq, List.cons.injEq, D.int.injEq, and_true, z_ite])
  have em : (i + j + 1).tdiv 2 = (i + j + 1) / 2 := Int.tdiv_eq_ediv_of_nonneg (by omega)
  rw [em]
  refine ⟨fun g5 => ⟨by omega, by omega, by omega, ?_⟩, fun g5 => ⟨rfl, by omega⟩⟩
  refine call_fn (hb ((i + j + 1) / 2) hc (by omega)) fun _ => ?_
  (simp -dsimp only [↓z_put, Nat.reduceLT, ↓z_ops_plain, ↓z_alloc, ↓y_zr27, ↓z_new, ↓z_nm_cons, ↓z_nmC_cons, ↓z_mn'_int, ↓z_nmC_nil, and_self, ↓z_mn'_sl, ↓z_nm_nil, ↓z_pg_cons, ↓z_mn_agg, ↓z_mn_int, ↓z_mn_oag, ↓z_mnL_int, ↓z_mnL_sl, ↓z_mnL_nil, ↓z_mn_bool, ↓z_mn_ptr, reduceCtorEq, ↓reduceIte, Nat.reduceEqDiff, ↓z_pg_nil, ↓z_store, ↓evW_tmp, ↓lkW_cons, ↓y_sz27, ↓z_cl_agg, List.length_cons, List.length_nil, Nat.zero_add, Nat.reduceAdd, ↓z_store_ptr, ↓lkoW_cons, Nat.reduceLeDiff, ↓spsW_cons, ↓drW_cons, Nat.reduceSub, ↓drW_nil, ↓z_cat_nil_r, ↓z_so_cons, ↓z_put_none, ↓z_ops_nil, ↓z_seq_nrm, ↓z_seq, ↓z_region, ↓z_fieldAddr, ↓y_fl27x1, ↓y_sz3, ne_eq, not_false_eq_true, ↓z_fa_ptr, ↓z_load, ↓y_ty3, ↓z_agTy_int, ↓loadW_ptr, ↓z_rd_f, ↓nthW_cons, ↓z_move, ↓z_binOp, ↓z_bn_leq, ↓z_cond, ↓z_cnd, ↓z_gdt, ↓z_assign, ↓z_blk_nrm, ↓z_lp_nrm, ↓z_wk, ↓z_wkE_cons, D.int.injEq, true_and, ↓z_wkE_nil, and_true, ↓z_wkO_cons, ↓z_wkO_nil, ↓evW_const, ↓constW_int, inR_i64, Int.reduceNeg, Int.reduceLE, ↓z_bn_sub, ↓wrW_i64, z_ite]); (try simp only [Int.toNat_natCast, Nat.mul_one, Bool.or_false, Bool.false_or, Bool.or_self, Bool.or_true])
  have pm := r3 ((i + j + 1) / 2) (by omega) (by omega)
  have pm : due < hiB rate ((i + j + 1) / 2) rs ↔ r ≤ (i + j + 1) / 2 := by simpa using pm
  exact ⟨fun g6 => ⟨((i + j + 1) / 2, j), ⟨by simp only; omega, by simp only; omega, by simp only; omega, h4⟩, by simp only; omega, rfl, rfl⟩, fun g6 => ⟨by omega, (i, (i + j + 1) / 2 - 1), ⟨h1, h2, by simp only; omega, by simp only; omega⟩, by simp only; omega, rfl, rfl⟩⟩
set_option maxRecDepth 100000 in
set_option maxHeartbeats 8000000 in
theorem fn_refEarliest (G : Glob) (rate : Int) (rs : List Rd) (due r : Int) (hr : chkC rate rs = 0 → Cut (earP rate due rs) r) : Fn G Try.prog 31 [.agg (clkA rate rs), .int .i64 due] (.agg [.int .i64 (earN rate due rs r), .int .i64 (earE rate due rs r)]) := by
  have hb := fun x hc hx => fn_Bounds G rate x rs hc hx
  have hw := fn_wrong G rate rs due
  unfold clkA at hb hw ⊢
  refine Fn.mk (c := _) Try.func31 rfl rfl Try.ntmps31 Try.results31 ?_
  (simp -dsimp only [bodyW, List.length_cons, List.length_nil, Nat.zero_add, Nat.reduceAdd, Nat.reduceLeDiff, wfL, ↓z_seq, ↓z_region, ↓z_ops_plain, ↓z_box, ↓evW_tmp, ↓z_lk_env, ↓reduceIte, ↓z_cl_agg, ↓z_nmC_cons, ↓z_mn'_int, ↓z_mn'_sl, ↓z_nmC_nil, and_self, ↓z_new, ↓z_nm_nil, Nat.reduceLT, ↓z_pg_env, ↓z_mn_agg, ↓z_mn_int, ↓z_pg_env0, ↓z_put, ↓z_alloc, ↓y_zr65, ↓z_nm_cons, ↓z_pg_cons, ↓z_mn_ptr, reduceCtorEq, ↓z_pg_nil, ↓z_ops_nil, ↓z_seq_nrm, ↓z_load, ↓lkW_cons, Nat.reduceEqDiff, ↓y_ty24, ↓y_sz24, ↓z_agTy_st, ↓loadW_ptr, ↓lkoW_cons, ↓z_rd_t, ↓z_sub_c, ↓z_sub_nil, ↓z_move, ↓z_callv, ↓evW_func, ↓z_evL_cons, ↓z_evL_nil, ↓z_fun0, ↓z_coeL_cons, ↓z_coe_oag, ↓z_coeC_cons, ↓z_coeS_int, ↓z_coeS_sl, ↓z_coeC_nil, ↓z_coe_int, ↓z_coeL_nil, true_and])
  intro _ _
  refine call_fn hw fun _ => ?_
  (simp -dsimp only [↓z_put, Nat.reduceLT, ↓z_ops_plain, ↓z_assign, ↓evW_tmp, ↓lkW_cons, ↓reduceIte, ↓z_ops_nil, ↓z_seq_nrm, ↓z_seq, ↓z_region, ↓z_move, ↓z_binOp, ↓evW_const, ↓constW_int, inR_i64, Int.reduceNeg, Int.reduceLE, and_self, ↓z_bn_neq, ↓z_cond, ↓z_cnd, ↓z_gdt, ne_eq, Nat.reduceEqDiff, ↓z_build, ↓y_ty65, ↓z_blTy_st, ↓y_zr65, ↓z_bld_cons, ↓y_fl65x1, ↓y_sz32, ↓z_cl_int, List.length_cons, List.length_nil, Nat.zero_add, Nat.reduceAdd, Nat.reduceLeDiff, ↓spsW_cons, reduceCtorEq, Nat.reduceSub, ↓drW_cons, ↓drW_nil, ↓z_cat_nil_r, ↓z_bld_nil, ↓z_store, ↓y_sz65, ↓z_cl_oag, ↓z_store_ptr, ↓lkoW_cons, ↓z_so_cons, ↓z_put_none, ↓z_ret, ↓z_seq_rt, ↓z_end_rt, resLW, res1W, ↓z_agTy_st, ↓z_coeL_cons, ↓z_coeL_nil, ↓z_pack1, ↓loadW_ptr, ↓z_rd_t, ↓z_sub_c, ↓z_sub_nil, ↓z_coe_oag, ↓z_coeC_cons, ↓z_coeS_int, ↓z_coeC_nil, D.agg.injEq, List.cons.injEq, D.int.injEq, true_and, and_true, ↓z_skip, ↓z_load, ↓y_ty24, ↓y_sz24, ↓z_callv, ↓evW_func, ↓z_evL_cons, ↓z_evL_nil, ↓z_fun0, ↓z_coeS_sl, ↓z_coe_int, z_ite, Classical.not_not])
  refine ⟨fun h => ⟨rfl, (ear_c (r := r) h).2.symm, (ear_c (r := r) h).1.symm⟩, fun h => ?_⟩
  obtain ⟨hc, hd⟩ := fir_y h
  obtain ⟨r1, r2, r3⟩ := hr hc
  refine call_fn (hb 3600000000 hc (by decide)) fun _ => ?_
  (simp -dsimp only [↓z_put, Nat.reduceLT, ↓z_ops_plain, ↓z_alloc, ↓y_zr27, ↓z_new, ↓z_nm_cons, ↓z_nmC_cons, ↓z_mn'_int, ↓z_nmC_nil, and_self, ↓z_mn'_sl, ↓z_nm_nil, Nat.zero_add, Nat.reduceAdd, ↓z_pg_cons, ↓z_mn_agg, ↓z_mn_oag, ↓z_mnL_int, ↓z_mnL_sl, ↓z_mnL_nil, ↓z_mn_bool, ↓z_mn_int, ↓z_mn_ptr, Nat.reduceEqDiff, ↓reduceIte, reduceCtorEq, ↓z_pg_nil, ↓z_store, ↓evW_tmp, ↓lkW_cons, ↓y_sz27, ↓z_cl_agg, List.length_cons, List.length_nil, ↓z_store_ptr, ↓lkoW_cons, Nat.reduceLeDiff, ↓spsW_cons, ↓drW_cons, Nat.reduceSub, ↓drW_nil, ↓z_cat_nil_r, ↓z_so_cons, ↓z_put_none, ↓z_ops_nil, ↓z_seq_nrm, ↓z_seq, ↓z_region, ↓z_fieldAddr, ↓y_fl27x0, ↓y_sz3, ne_eq, not_false_eq_true, ↓z_fa_ptr, ↓z_load, ↓y_ty3, ↓z_agTy_int, ↓loadW_ptr, ↓z_rd_f, ↓nthW_cons, ↓z_move, ↓z_binOp, ↓z_bn_lss, ↓z_cond, ↓z_cnd, ↓z_gdt, ↓z_build, ↓y_ty65, ↓z_blTy_st, ↓y_zr65, ↓z_bld_cons, ↓y_fl65x1, ↓y_sz32, ↓evW_const, ↓constW_int, inR_i64, Int.reduceNeg, Int.reduceLE, ↓z_cl_int, ↓z_bld_nil, ↓y_sz65, ↓z_cl_oag, ↓z_ret, ↓z_seq_rt, ↓z_end_rt, resLW, res1W, ↓z_agTy_st, ↓z_coeL_cons, ↓z_coeL_nil, ↓z_pack1, ↓z_rd_t, ↓z_sub_c, ↓z_sub_nil, ↓z_coe_oag, ↓z_coeC_cons, ↓z_coeS_int, ↓z_coeC_nil, D.agg.injEq, List.cons.injEq, D.int.injEq, true_and, and_true, ↓z_skip, ↓z_assign, ↓z_block, ↓z_loop, z_ite])
  have p0 := r3 3600000000 (by decide) (by decide)
  have p0 : due ≤ loB rate 3600000000 rs ↔ r ≤ 3600000000 := by simpa using p0
  refine ⟨fun g => ⟨rfl, (ear_8 (r := r) h (by omega)).2.symm, (ear_8 (r := r) h (by omega)).1.symm⟩, fun g => ?_⟩
  obtain ⟨e1, e2⟩ := ear_0 (r := r) h (by omega)
  rw [e1, e2]
  refine hold_intro ⟨[], Int × Int, fun ij => ⟨44, 3, [(7, .int .i64 ij.1), (8, .int .i64 ij.2), (2, .ptr 0 0), (4, .ptr 1 0), (1, .int .i64 due)], [(1, [.int .i64 0, .int .i64 0]), (0, clkA rate rs)]⟩, fun ij => 0 ≤ ij.1 ∧ ij.1 ≤ r ∧ r ≤ ij.2 ∧ ij.2 ≤ 3600000000, fun ij => (ij.2 - ij.1).toNat, ?_, ?_⟩
  · unfold clkA; (simp -dsimp only [↓z_ad_nil, ↓z_wk, ↓z_wkE_cons, ↓lkW_cons, Nat.reduceEqDiff, ↓reduceIte, D.int.injEq, true_and, Nat.zero_add, reduceCtorEq, ↓z_wkE_nil, and_self, and_true, ↓z_wkO_cons, ↓lkoW_cons, Nat.reduceAdd, ↓z_wkO_nil]); (try simp only [Int.toNat_natCast, Nat.mul_one, Bool.or_false, Bool.false_or, Bool.or_self, Bool.or_true])
    exact ⟨(0, 3600000000), by simp; omega, rfl, rfl⟩
  rintro ⟨i, j⟩ ⟨h1, h2, h3, h4⟩
  simp only at h1 h2 h3 h4
  unfold clkA
  (simp -dsimp only [↓z_seq, ↓z_region, ↓z_ops_plain, ↓z_move, ↓evW_tmp, ↓lkW_cons, ↓reduceIte, ↓z_put, Nat.reduceLT, Nat.reduceEqDiff, ↓z_binOp, ↓z_bn_lss, ↓z_ops_nil, ↓z_seq_nrm, ↓z_cond, ↓z_cnd, ↓z_gdt, ↓z_skip, ↓z_block, ↓z_bn_add, ↓wrW_i64, inR_i64, Int.reduceNeg, ↓evW_const, ↓constW_int, Int.reduceLE, and_self, ↓z_bn_quo, ↓z_quo_i64, ne_eq, Int.reduceEq, not_false_eq_true, ↓z_assign, ↓z_load, ↓y_ty24, ↓y_sz24, ↓z_agTy_st, ↓loadW_ptr, ↓lkoW_cons, reduceCtorEq, ↓z_rd_t, Nat.zero_add, List.length_cons, List.length_nil, Nat.reduceAdd, Nat.reduceLeDiff, ↓z_sub_c, ↓z_sub_nil, ↓z_callv, ↓evW_func, ↓z_evL_cons, ↓z_evL_nil, ↓z_fun0, ↓z_coeL_cons, ↓z_coe_oag, ↓z_coeC_cons, ↓z_coeS_int, ↓z_coeS_sl, ↓z_coeC_nil, ↓z_coe_int, ↓z_coeL_nil, true_and, ↓z_exit, ↓z_seq_ext, ↓z_lp_ext, ↓z_blk_ext, ↓z_build, ↓y_ty65, ↓z_blTy_st, ↓y_zr65, ↓z_bld_cons, ↓y_fl65x0, ↓y_sz3, ↓z_cl_int, ↓spsW_cons, ↓drW_cons, Nat.reduceSub, ↓catW_cons, ↓catW_nil, ↓z_bld_nil, ↓z_store, ↓y_sz65, ↓z_cl_oag, ↓z_store_ptr, ↓drW_nil, ↓z_cat_nil_r, ↓z_so_cons, ↓z_put_none, ↓z_ret, ↓z_end_rt, resLW, res1W, ↓z_pack1, D.agg.injEq, List.cons.injEq, D.int.injEq, and_true, z_ite])
  have em : (i + j).tdiv 2 = (i + j) / 2 := Int.tdiv_eq_ediv_of_nonneg (by omega)
  rw [em]
  refine ⟨fun g5 => ⟨by omega, by omega, ?_⟩, fun g5 => ⟨rfl, by omega⟩⟩
  refine call_fn (hb ((i + j) / 2) hc (by omega)) fun _ => ?_
  (simp -dsimp only [↓z_put, Nat.reduceLT, ↓z_ops_plain, ↓z_alloc, ↓y_zr27, ↓z_new, ↓z_nm_cons, ↓z_nmC_cons, ↓z_mn'_int, ↓z_nmC_nil, and_self, ↓z_mn'_sl, ↓z_nm_nil, ↓z_pg_cons, ↓z_mn_agg, ↓z_mn_int, ↓z_mn_oag, ↓z_mnL_int, ↓z_mnL_sl, ↓z_mnL_nil, ↓z_mn_bool, ↓z_mn_ptr, reduceCtorEq, ↓reduceIte, Nat.reduceEqDiff, ↓z_pg_nil, ↓z_store, ↓evW_tmp, ↓lkW_cons, ↓y_sz27, ↓z_cl_agg, List.length_cons, List.length_nil, Nat.zero_add, Nat.reduceAdd, ↓z_store_ptr, ↓lkoW_cons, Nat.reduceLeDiff, ↓spsW_cons, ↓drW_cons, Nat.reduceSub, ↓drW_nil, ↓z_cat_nil_r, ↓z_so_cons, ↓z_put_none, ↓z_ops_nil, ↓z_seq_nrm, ↓z_seq, ↓z_region, ↓z_fieldAddr, ↓y_fl27x0, ↓y_sz3, ne_eq, not_false_eq_true, ↓z_fa_ptr, ↓z_load, ↓y_ty3, ↓z_agTy_int, ↓loadW_ptr, ↓z_rd_f, ↓nthW_cons, ↓z_move, ↓z_binOp, ↓z_bn_geq, ↓z_cond, ↓z_cnd, ↓z_gdt, ↓z_assign, ↓z_blk_nrm, ↓z_lp_nrm, ↓z_wk, ↓z_wkE_cons, D.int.injEq, true_and, ↓z_wkE_nil, and_true, ↓z_wkO_cons, ↓z_wkO_nil, ↓evW_const, ↓constW_int, inR_i64, Int.reduceNeg, Int.reduceLE, ↓z_bn_add, ↓wrW_i64, z_ite]); (try simp only [Int.toNat_natCast, Nat.mul_one, Bool.or_false, Bool.false_or, Bool.or_self, Bool.or_true])
  have pm := r3 ((i + j) / 2) (by omega) (by omega)
  have pm : due ≤ loB rate ((i + j) / 2) rs ↔ r ≤ (i + j) / 2 := by simpa using pm
  exact ⟨fun g6 => ⟨(i, (i + j) / 2), ⟨h1, h2, by simp only; omega, by simp only; omega⟩, by simp only; omega, rfl, rfl⟩, fun g6 => ⟨by omega, ((i + j) / 2 + 1, j), ⟨by simp only; omega, by simp only; omega, h3, h4⟩, by simp only; omega, rfl, rfl⟩⟩
end Go.Abs

