/-
  CLOCK, twelfth walks: the law of what passes; the law of monotony.
-/
import Derived.Test.YtdjfnipabekkaaaK11
namespace Go.Abs
open Go.Proofs
/-- What is shown once serves several ways. -/
theorem merge {X A : Prop} (x : X) (h : (Unit → X) → A) : A := h fun _ => x
theorem pas_iff {p d n : Int} (p0 : 0 ≤ p) (p1 : p ≤ 100000) (d0 : 0 ≤ d) (d1 : d ≤ 300) (n0 : 0 ≤ n) (n1 : n ≤ 400) :
    (pLo p d ≤ n ∧ n ≤ pHi p d) ↔ max (n * (1000000 - p)) ((d - 1) * 1000000 + 1) ≤ min (n * (1000000 + p)) ((d + 1) * 1000000 - 1) := by
  have e0 : n * (1000000 - p) ≤ n * (1000000 + p) := Int.mul_le_mul_of_nonneg_left (by omega) n0
  have eh : n ≤ pHi p d ↔ n * (1000000 - p) ≤ (d + 1) * 1000000 - 1 := by
    unfold pHi
    rw [Int.le_ediv_iff_mul_le (by omega)]
  have el : pLo p d ≤ n ↔ (d - 1) * 1000000 + 1 ≤ n * (1000000 + p) := by
    unfold pLo
    split
    · have := Int.ediv_lt_iff_lt_mul (a := (d - 1) * 1000000) (b := n) (c := 1000000 + p) (by omega)
      omega
    · have : 0 ≤ n * (1000000 + p) := Int.mul_nonneg n0 (by omega)
      omega
  rw [eh, el]
  omega
set_option maxRecDepth 100000 in
set_option maxHeartbeats 16000000 in
theorem fn_LawP (G : Glob) (a b c : Int) : Fn G Try.prog 6 [.int .u32 a, .int .u16 b, .int .u16 c] (.bool true) := by
  refine Fn.mk (c := _) Try.func6 rfl rfl Try.ntmps6 Try.results6 ?_
  (simp -dsimp only [bodyW, List.length_cons, List.length_nil, Nat.zero_add, Nat.reduceAdd, Nat.reduceLeDiff, wfL, ↓z_seq, ↓z_region, ↓z_ops_plain, ↓z_assign, ↓evW_const, ↓constW_bool, ↓z_put, Nat.reduceLT, ↓z_ops_nil, ↓z_seq_nrm, ↓z_move, ↓evW_tmp, ↓lkW_cons, reduceCtorEq, ↓reduceIte, ↓z_lk_env, ↓z_convert, ↓y_ty68, ↓y_ty3, ↓z_cvt_int, ↓z_cv_int, ↓z_cvi_u32_i64, ↓z_binOp, ↓constW_int, inR_i64, Int.reduceNeg, Int.reduceLE, and_self, ↓z_bn_rem, ↓z_rem_i64, ne_eq, Int.reduceEq, not_false_eq_true, Nat.reduceEqDiff, ↓y_ty69, ↓z_cvi_u16_i64, ↓z_callv, ↓evW_func, ↓z_evL_cons, ↓z_evL_nil, ↓z_fun0, ↓z_coeL_cons, ↓z_coe_int, ↓z_coeL_nil, true_and])
  intro h1 h2 h3
  have b1 : 0 ≤ a ∧ a ≤ 4294967295 := h1.1
  have b2 : 0 ≤ b ∧ b ≤ 65535 := h2.1
  have b3 : 0 ≤ c ∧ c ≤ 65535 := h3.1
  rw [Int.tmod_eq_emod_of_nonneg (a := a) (b := 100001) (by omega), Int.tmod_eq_emod_of_nonneg (a := b) (b := 301) (by omega), Int.tmod_eq_emod_of_nonneg (a := c) (b := 401) (by omega)]
  obtain ⟨p, hp⟩ : ∃ p, a % 100001 = p := ⟨_, rfl⟩
  obtain ⟨d, hd⟩ : ∃ p, b % 301 = p := ⟨_, rfl⟩
  obtain ⟨n, hn⟩ : ∃ p, c % 401 = p := ⟨_, rfl⟩
  have p0 : 0 ≤ p := by omega
  have p1 : p ≤ 100000 := by omega
  have d0 : 0 ≤ d := by omega
  have d1 : d ≤ 300 := by omega
  have n0 : 0 ≤ n := by omega
  have n1 : n ≤ 400 := by omega
  rw [hp, hd, hn]
  have hP := fn_Passed G p d
  rw [pasL_ok p0 p1 ⟨d0, by omega⟩, pasH_ok p0 p1 ⟨d0, by omega⟩, pasE_ok p0 p1 ⟨d0, by omega⟩] at hP
  have hi := pas_iff p0 p1 d0 d1 n0 n1
  have m1 : 0 ≤ n * (1000000 - p) := Int.mul_nonneg n0 (by omega)
  have m2 : n * (1000000 - p) ≤ n * 1000000 := Int.mul_le_mul_of_nonneg_left (by omega) n0
  have m3 : 0 ≤ n * (1000000 + p) := Int.mul_nonneg n0 (by omega)
  have m4 : n * (1000000 + p) ≤ n * 1100000 := Int.mul_le_mul_of_nonneg_left (by omega) n0
  (repeat (refine And.intro (by first | omega | decide | rfl) ?_))
  refine call_fn hP fun _ => ?_
  (simp -dsimp only [↓z_put, Nat.reduceLT, ↓z_ops_plain, ↓z_move, ↓evW_tmp, ↓lkW_cons, ↓reduceIte, ↓z_extract, ↓z_ex, ↓nthW_cons, Nat.reduceEqDiff, reduceCtorEq, Nat.reduceSub, ↓z_assign, ↓z_ops_nil, ↓z_seq_nrm, ↓z_seq, ↓z_region, ↓z_binOp, ↓evW_const, ↓constW_int, inR_i64, Int.reduceNeg, Int.reduceLE, and_self, ↓z_bn_sub, ↓wrW_i64, ↓z_bn_mul, ↓z_bn_add, ↓z_callb, ↓z_evL_cons, ↓z_evL_nil, ↓z_max, ↓z_mx_max, ↓z_mx_nil, ↓z_min, ↓z_mx_min, ↓z_bn_leq, ↓z_callv, ↓evW_func, ↓z_fun0, ↓z_coeL_nil, true_and])
  (repeat (refine And.intro (by first | omega | decide | rfl) ?_))
  refine call_fn (fn_sanity G) fun _ => ?_
  (simp -dsimp only [↓z_put, Nat.reduceLT, ↓z_ops_plain, ↓z_move, ↓evW_tmp, ↓lkW_cons, ↓reduceIte, ↓z_ops_guard, ↓z_grd, ↓z_dst_s, ↓z_dst_0, ↓z_grdD_b, ↓z_gtt, Nat.reduceEqDiff, ↓z_binOp, ↓evW_const, ↓constW_int, inR_i64, Int.reduceNeg, Int.reduceLE, and_self, ↓z_bn_eql, ↓z_pick, ↓z_pick_b, ↓z_gdt, ↓z_bn_leq, ↓z_bn_beql, ↓y_ty4, ↓z_boolTy, ↓z_assign, ↓z_ops_nil, ↓z_seq_nrm, ↓z_ret, ↓z_end_rt, resLW, res1W, ↓z_envF_cons, Nat.zero_add, Nat.reduceAdd, ↓z_envF_nil, ↓z_coeL_cons, ↓z_coeL_nil, ↓z_pack1, ↓z_coe_bool, D.bool.injEq, decide_eq_true_eq, true_and, ↓z_gnt, ↓z_gtf, ↓constW_bool, Bool.not_true, z_ite]); (try simp only [Int.toNat_natCast, Nat.mul_one, Bool.or_false, Bool.false_or, Bool.or_self, Bool.or_true])
  exact ⟨fun h => decide_eq_decide.2 ⟨fun h2 => hi.1 ⟨h, h2⟩, fun h2 => (hi.2 h2).2⟩, fun h => (decide_eq_false fun h2 => h (hi.2 h2).1).symm⟩
theorem now_okE {rate x : Int} {rs : List Rd} (h : nowE rate x rs = 0) : chkC rate rs = 0 ∧ instP x ∧ nowL rate x rs = loB rate x rs ∧ nowH rate x rs = hiB rate x rs := by
  obtain ⟨h1, h2⟩ := now_yes h
  refine ⟨?_, ?_, h1, h2⟩
  · refine Classical.byContradiction fun hn => ?_
    rw [nowE_c hn] at h; exact hn h
  · refine Classical.byContradiction fun hn => ?_
    by_cases hc : chkC rate rs = 0
    · rw [nowE_x hc hn] at h; cases h
    · rw [nowE_c hc] at h; exact hc h
theorem mono_now {rate a b : Int} {rs : List Rd} (hab : a ≤ b) (h1 : nowE rate a rs = 0) (h2 : nowE rate b rs = 0) : ¬ nowL rate b rs < nowL rate a rs ∧ ¬ nowH rate b rs < nowH rate a rs := by
  obtain ⟨c, i1, l1, m1⟩ := now_okE h1
  obtain ⟨_, i2, l2, m2⟩ := now_okE h2
  obtain ⟨c1, c2, _⟩ := chkC_ok c
  have := loB_mono (rs := rs) c1 c2 hab
  have := hiB_mono (rs := rs) c1 c2 hab
  rw [l1, l2, m1, m2]; omega
theorem lat_fact {rate z q a : Int} {rs : List Rd} (hq : Cut (latP rate z rs) q) (h : latE rate z rs q = 0) (h1 : nowE rate a rs = 0) : (a ≤ latN rate z rs q → ¬ z < nowH rate a rs) ∧ (latN rate z rs q < a → ¬ nowH rate a rs ≤ z) := by
  obtain ⟨c, i1, l1, m1⟩ := now_okE h1
  have e : latN rate z rs q = q - 1 := by unfold latN; rw [if_pos h]
  have hc := hq.2.2 a i1.1 i1.2
  rw [e, m1]
  simp only [latP, latQ, decide_eq_true_eq] at hc
  omega
theorem ear_fact {rate z q a : Int} {rs : List Rd} (hq : Cut (earP rate z rs) q) (h : earE rate z rs q = 0) (h1 : nowE rate a rs = 0) : (earN rate z rs q ≤ a → ¬ nowL rate a rs < z) ∧ (a < earN rate z rs q → ¬ z ≤ nowL rate a rs) := by
  obtain ⟨c, i1, l1, m1⟩ := now_okE h1
  have e : earN rate z rs q = q := by unfold earN; rw [if_pos h]
  have hc := hq.2.2 a i1.1 i1.2
  rw [e, l1]
  simp only [earP, earQ, decide_eq_true_eq] at hc
  omega
/-- With one reading more no range becomes wider. -/
theorem sync_fact {rate a : Int} {rs : List Rd} {r : Rd} (h : synE rate rs r = 0) (hl : rs.length < 16) (h1 : nowE rate a rs = 0) (h2 : nowE rate a (synL rate rs r) = 0) :
    nowL rate a rs ≤ nowL rate a (synL rate rs r) ∧ nowH rate a (synL rate rs r) ≤ nowH rate a rs := by
  obtain ⟨c, i1, l1, m1⟩ := now_okE h1
  obtain ⟨_, i2, l2, m2⟩ := now_okE h2
  rw [l1, l2, m1, m2]
  have e : synL rate rs r = rs ++ [synR rate rs r] := by unfold synL; rw [show rs.length - 15 = 0 by omega]; rfl
  rw [e]
  refine ⟨loB_le.2 ⟨loB_0, fun x hx => (loB_le.1 (Int.le_refl _)).2 x (List.mem_append_left _ hx)⟩, hiB_ge.2 ⟨hiB_m, fun x hx => (hiB_ge.1 (Int.le_refl _)).2 x (List.mem_append_left _ hx)⟩⟩
set_option maxRecDepth 100000 in
set_option maxHeartbeats 16000000 in
theorem fn_LawM (G : Glob) (rate x y z : Int) (rs : List Rd) (r : Rd) : Fn G Try.prog 9 [.agg (clkA rate rs), .agg [.int .i64 x, .int .i64 y, .int .i64 z], .agg [.int .i64 r.1, .int .i64 r.2.1, .int .i64 r.2.2]] (.bool true) := by
  obtain ⟨q, hq⟩ := lat_cut rate z rs
  obtain ⟨p, hp⟩ := ear_cut rate z rs
  have hS := (fn_Sync G rate rs r).fn
  unfold clkA
  refine Fn.mk (c := _) Try.func9 rfl rfl Try.ntmps9 Try.results9 ?_
  (simp -dsimp only [bodyW, List.length_cons, List.length_nil, Nat.zero_add, Nat.reduceAdd, Nat.reduceLeDiff, wfL, ↓z_seq, ↓z_region, ↓z_ops_plain, ↓z_box, ↓evW_tmp, ↓z_lk_env, ↓reduceIte, ↓z_cl_agg, ↓z_nmC_cons, ↓z_mn'_int, ↓z_mn'_sl, ↓z_nmC_nil, and_self, ↓z_new, ↓z_nm_nil, Nat.reduceLT, ↓z_pg_env, ↓z_mn_agg, ↓z_pg_env0, ↓z_put, ↓lkW_cons, Nat.reduceEqDiff, reduceCtorEq, ↓z_nm_cons, ↓z_pg_cons, ↓z_mn_ptr, ↓z_pg_nil, ↓z_assign, ↓evW_const, ↓constW_bool, ↓z_ops_nil, ↓z_seq_nrm, ↓z_load, ↓y_ty24, ↓y_sz24, ↓z_agTy_st, ↓loadW_ptr, ↓lkoW_cons, ↓z_rd_t, ↓z_sub_c, ↓z_sub_nil, ↓z_callv, ↓evW_func, ↓z_evL_cons, ↓z_evL_nil, ↓z_fun0, ↓z_coeL_cons, ↓z_coe_oag, ↓z_coeC_cons, ↓z_coeS_int, ↓z_coeS_sl, ↓z_coeC_nil, ↓z_coeL_nil, true_and])
  intro hd _ _
  refine call_fn (fn_few G rate rs) fun _ => ?_
  (simp -dsimp only [↓z_put, Nat.reduceLT, ↓z_ops_plain, ↓z_unOp, ↓evW_tmp, ↓lkW_cons, ↓reduceIte, ↓z_un_not, ↓z_move, ↓z_ops_guard, ↓z_grd, ↓z_dst_s, ↓z_dst_0, ↓z_grdD_b, ↓z_gnf, ↓z_gdt, ↓z_load, Nat.reduceEqDiff, ↓y_ty24, ↓y_sz24, ↓z_agTy_st, ↓loadW_ptr, ↓lkoW_cons, Nat.zero_add, Nat.reduceAdd, reduceCtorEq, ↓z_rd_t, List.length_cons, List.length_nil, Nat.reduceLeDiff, ↓z_sub_c, ↓z_sub_nil, ↓z_gff, ↓z_callv, ↓evW_func, ↓z_evL_cons, ↓z_evL_nil, ↓z_fun0, ↓z_coeL_cons, ↓z_coe_oag, ↓z_coeC_cons, ↓z_coeS_int, ↓z_coeS_sl, ↓z_coeC_nil, ↓z_coeL_nil, true_and, ↓z_gft, ↓z_pick, ↓z_pick_b, ↓z_gnt, ↓evW_const, ↓constW_bool, ↓z_ops_nil, ↓z_seq_nrm, ↓z_cond, ↓z_cnd, ↓z_gtt, ↓z_seq, ↓z_region, z_ite])
  refine ⟨fun g => ?_, fun g => call_fn (fn_sanity G) fun _ => by (simp -dsimp only [↓z_put, Nat.reduceLT, ↓z_ops_plain, ↓z_assign, ↓evW_tmp, ↓lkW_cons, ↓reduceIte, ↓z_ops_nil, ↓z_seq_nrm, ↓z_ret, ↓z_seq_rt, ↓z_end_rt, resLW, res1W, Bool.not_false, Nat.zero_add, Nat.reduceAdd, ↓z_coeL_cons, ↓z_coeL_nil, ↓z_pack1, ↓z_coe_bool, and_self]); (try simp only [Int.toNat_natCast, Nat.mul_one, Bool.or_false, Bool.false_or, Bool.or_self, Bool.or_true])⟩
  refine call_fn (fn_refCheck G rate rs) fun _ => ?_
  (simp -dsimp only [↓z_put, Nat.reduceLT, ↓z_ops_guard, ↓z_grd, ↓z_dst_s, ↓z_dst_0, ↓lkW_cons, Nat.reduceEqDiff, ↓reduceIte, ↓z_grdD_b, ↓z_gff, ↓z_binOp, ↓evW_tmp, ↓evW_const, ↓constW_int, inR_i64, Int.reduceNeg, Int.reduceLE, and_self, ↓z_bn_neq, ↓z_ops_plain, ↓z_pick, ↓z_pick_b, ↓z_gft, ↓z_ops_nil, ↓z_seq_nrm, ↓z_cond, ↓z_cnd, ↓z_gdt, ne_eq, ↓z_seq, ↓z_region, ↓z_callv, ↓evW_func, ↓z_evL_nil, ↓z_fun0, ↓z_coeL_nil, ↓z_skip, ↓z_region_d, ↓y_mix, true_and, z_ite, Classical.not_not])
  refine ⟨fun g2 => call_fn (fn_sanity G) fun _ => by (simp -dsimp only [↓z_put, Nat.reduceLT, ↓z_ops_plain, ↓z_assign, ↓evW_tmp, ↓lkW_cons, ↓reduceIte, ↓z_ops_nil, ↓z_seq_nrm, ↓z_ret, ↓z_seq_rt, ↓z_end_rt, resLW, res1W, ne_eq, Nat.zero_add, Nat.reduceAdd, ↓z_coeL_cons, ↓z_coeL_nil, ↓z_pack1, ↓z_coe_bool, and_self]); (try simp only [Int.toNat_natCast, Nat.mul_one, Bool.or_false, Bool.false_or, Bool.or_self, Bool.or_true]), fun hc => ?_⟩
  refine rgn_d (by decide +kernel) ?_
  (simp -dsimp only [↓z_drw_indexAddr, ↓z_drwS, ↓z_grd_none, ↓z_withE, ↓z_rd_tmp, ↓lkW_cons, Nat.reduceEqDiff, ↓reduceIte, ↓z_rd_const, ↓z_rd_nil, ↓z_ap_cons, ↓z_ap_nil, ↓z_indexAddr, ↓evW_tmp, ↓evW_const, ↓constW_int, inR_i64, Int.reduceNeg, Int.reduceLE, and_self, ↓y_ty85, ↓z_elTy_arr, ↓y_sz3, ↓z_ix_ptr, Nat.zero_add, Int.reduceToNat, Nat.mul_one, Nat.reduceAdd, and_true, true_and, ↓z_exD_all, ↓z_exD_and, ↓z_exD_eq, ↓z_put, Nat.reduceLT, ↓z_drwK, ↓z_drw_load, ↓z_load, ↓y_ty3, ↓z_agTy_int, ↓loadW_ptr, ↓lkoW_cons, ↓z_rd_f, ↓nthW_cons, reduceCtorEq, Nat.reduceSub, ↓z_drw_callb_min, ↓z_callb, ↓z_evL_cons, ↓z_evL_nil, ↓z_min, ↓z_mx_min, ↓z_mx_nil, ↓z_drw_callb_max, ↓z_max, ↓z_mx_max, ↓z_drw_assign, ↓z_assign, ↓z_drw_nil, ↓z_seq_nrm, ↓z_seq, ↓z_region, ↓z_ops_plain, ↓y_ty24, ↓y_sz24, ↓z_agTy_st, ↓z_rd_t, List.length_cons, List.length_nil, Nat.reduceLeDiff, ↓z_sub_c, ↓z_sub_nil, ↓z_move, ↓z_callv, ↓evW_func, ↓z_fun0, ↓z_coeL_cons, ↓z_coe_oag, ↓z_coeC_cons, ↓z_coeS_int, ↓z_coeS_sl, ↓z_coeC_nil, ↓z_coe_int, ↓z_coeL_nil]); (try simp only [Int.toNat_natCast, Nat.mul_one, Bool.or_false, Bool.false_or, Bool.or_self, Bool.or_true])
  (repeat (refine And.intro (by first | omega | decide | rfl) ?_))
  refine call_fn (fn_Now G rate (min x y) rs) fun _ => ?_
  (simp -dsimp only [↓z_put, Nat.reduceLT, ↓z_ops_plain, ↓z_move, ↓evW_tmp, ↓lkW_cons, ↓reduceIte, ↓z_extract, ↓z_ex, ↓nthW_cons, Nat.reduceEqDiff, reduceCtorEq, Nat.reduceSub, ↓z_alloc, ↓y_zr27, ↓z_new, ↓z_nm_cons, ↓z_nmC_cons, ↓z_mn'_int, ↓z_nmC_nil, and_self, ↓z_mn'_sl, ↓z_nm_nil, Nat.zero_add, Nat.reduceAdd, ↓z_pg_cons, ↓z_mn_int, ↓z_mn_agg, ↓z_mn_tup, ↓z_mn_oag, ↓z_mnL_int, ↓z_mnL_sl, ↓z_mnL_nil, ↓z_mn_ptr, ↓z_mn_bool, ↓z_pg_nil, ↓z_store, ↓y_sz27, ↓z_cl_agg, List.length_cons, List.length_nil, ↓z_store_ptr, ↓lkoW_cons, Nat.reduceLeDiff, ↓spsW_cons, ↓drW_cons, ↓drW_nil, ↓z_cat_nil_r, ↓z_so_cons, ↓z_put_none, ↓z_assign, ↓z_ops_nil, ↓z_seq_nrm, ↓z_seq, ↓z_region, ↓z_load, ↓y_ty24, ↓y_sz24, ↓z_agTy_st, ↓loadW_ptr, ↓z_rd_t, ↓z_sub_c, ↓z_sub_nil, ↓z_callv, ↓evW_func, ↓z_evL_cons, ↓z_evL_nil, ↓z_fun0, ↓z_coeL_cons, ↓z_coe_oag, ↓z_coeC_cons, ↓z_coeS_int, ↓z_coeS_sl, ↓z_coeC_nil, ↓z_coe_int, ↓z_coeL_nil, true_and])
  refine call_fn (fn_Now G rate (max x y) rs) fun _ => ?_
  (simp -dsimp only [↓z_put, Nat.reduceLT, ↓z_ops_plain, ↓z_move, ↓evW_tmp, ↓lkW_cons, ↓reduceIte, ↓z_extract, ↓z_ex, ↓nthW_cons, Nat.reduceEqDiff, reduceCtorEq, Nat.reduceSub, ↓z_alloc, ↓y_zr27, ↓z_new, ↓z_nm_cons, ↓z_nmC_cons, ↓z_mn'_int, ↓z_nmC_nil, and_self, ↓z_mn'_sl, ↓z_nm_nil, Nat.zero_add, Nat.reduceAdd, ↓z_pg_cons, ↓z_mn_int, ↓z_mn_agg, ↓z_mn_tup, ↓z_mn_oag, ↓z_mnL_int, ↓z_mnL_sl, ↓z_mnL_nil, ↓z_mn_ptr, ↓z_mn_bool, ↓z_pg_nil, ↓z_store, ↓y_sz27, ↓z_cl_agg, List.length_cons, List.length_nil, ↓z_store_ptr, ↓lkoW_cons, Nat.reduceLeDiff, ↓spsW_cons, ↓drW_cons, ↓drW_nil, ↓z_cat_nil_r, ↓z_so_cons, ↓z_put_none, ↓z_assign, ↓z_ops_nil, ↓z_seq_nrm, ↓z_seq, ↓z_region, ↓z_binOp, ↓evW_const, ↓constW_int, inR_i64, Int.reduceNeg, Int.reduceLE, ↓z_bn_eql, ↓z_ops_guard, ↓z_grd, ↓z_dst_s, ↓z_dst_0, ↓z_grdD_b, ↓z_gdt, ↓z_gtt, ↓z_pick, ↓z_pick_b, ↓z_fieldAddr, ↓y_fl27x0, ↓y_sz3, ne_eq, not_false_eq_true, ↓z_fa_ptr, ↓z_load, ↓y_ty3, ↓z_agTy_int, ↓loadW_ptr, ↓z_rd_f, ↓z_bn_gtr, ↓z_gdf, ↓z_gnf, ↓z_gft, ↓z_gnt, ↓z_gff, ↓constW_bool, ↓z_cond, ↓z_cnd, ↓z_ret, ↓z_seq_rt, ↓z_end_rt, resLW, res1W, Bool.not_false, ↓z_coeL_cons, ↓z_coeL_nil, ↓z_pack1, ↓z_coe_bool, D.bool.injEq, and_false, ↓y_fl27x1, ↓z_skip, ↓y_ty24, ↓y_sz24, ↓z_agTy_st, ↓z_rd_t, ↓z_sub_c, ↓z_sub_nil, ↓z_callv, ↓evW_func, ↓z_evL_cons, ↓z_evL_nil, ↓z_fun0, ↓z_coe_oag, ↓z_coeC_cons, ↓z_coeS_int, ↓z_coeS_sl, ↓z_coeC_nil, ↓z_coe_int, true_and, z_ite, ↓z_gtf, ↓z_grdD_u])
  have hab : min x y ≤ max x y := by omega
  apply merge
  rotate_left
  · intro key
    refine ⟨fun h1 => ⟨fun h2 => ⟨fun h3 => ?_, fun h3 => ⟨fun h4 => ?_, fun h4 => ?_⟩⟩, fun h2 => ?_⟩, fun h1 => ?_⟩
    · exact (mono_now hab h1 h2).1 h3
    · exact (mono_now hab h1 h2).2 h4
    · exact call_wk ⟨195, 5, [(3, .ptr 0 0), (5, .ptr 2 0), (7, .int .i64 (min x y)), (8, .int .i64 (max x y)), (9, .int .i64 z), (10, .ptr 3 0), (11, .int .i64 (nowE rate (min x y) rs)), (12, .ptr 4 0), (13, .int .i64 (nowE rate (max x y) rs))], [(4, [.int .i64 (nowL rate (max x y) rs), .int .i64 (nowH rate (max x y) rs)]), (3, [.int .i64 (nowL rate (min x y) rs), .int .i64 (nowH rate (min x y) rs)]), (2, [.int .i64 r.1, .int .i64 r.2.1, .int .i64 r.2.2]), (1, [.int .i64 x, .int .i64 y, .int .i64 z]), (0, [.int .i64 rate, .sl 3 rs.length (List.flatMap rdC rs)])]⟩ (by (simp -dsimp only [↓z_wk, ↓z_wkE_cons, ↓lkW_cons, Nat.reduceEqDiff, ↓reduceIte, Nat.zero_add, Nat.reduceAdd, ↓z_wkE_nil, and_self, ↓z_wkO_cons, ↓lkoW_cons, reduceCtorEq, ↓z_wkO_nil]); (try simp only [Int.toNat_natCast, Nat.mul_one, Bool.or_false, Bool.false_or, Bool.or_self, Bool.or_true])) (key ())
    · exact call_wk ⟨195, 5, [(3, .ptr 0 0), (5, .ptr 2 0), (7, .int .i64 (min x y)), (8, .int .i64 (max x y)), (9, .int .i64 z), (10, .ptr 3 0), (11, .int .i64 (nowE rate (min x y) rs)), (12, .ptr 4 0), (13, .int .i64 (nowE rate (max x y) rs))], [(4, [.int .i64 (nowL rate (max x y) rs), .int .i64 (nowH rate (max x y) rs)]), (3, [.int .i64 (nowL rate (min x y) rs), .int .i64 (nowH rate (min x y) rs)]), (2, [.int .i64 r.1, .int .i64 r.2.1, .int .i64 r.2.2]), (1, [.int .i64 x, .int .i64 y, .int .i64 z]), (0, [.int .i64 rate, .sl 3 rs.length (List.flatMap rdC rs)])]⟩ (by (simp -dsimp only [↓z_wk, ↓z_wkE_cons, ↓lkW_cons, Nat.reduceEqDiff, ↓reduceIte, Nat.zero_add, Nat.reduceAdd, ↓z_wkE_nil, and_self, ↓z_wkO_cons, ↓lkoW_cons, reduceCtorEq, ↓z_wkO_nil]); (try simp only [Int.toNat_natCast, Nat.mul_one, Bool.or_false, Bool.false_or, Bool.or_self, Bool.or_true])) (key ())
    · exact call_wk ⟨195, 5, [(3, .ptr 0 0), (5, .ptr 2 0), (7, .int .i64 (min x y)), (8, .int .i64 (max x y)), (9, .int .i64 z), (10, .ptr 3 0), (11, .int .i64 (nowE rate (min x y) rs)), (12, .ptr 4 0), (13, .int .i64 (nowE rate (max x y) rs))], [(4, [.int .i64 (nowL rate (max x y) rs), .int .i64 (nowH rate (max x y) rs)]), (3, [.int .i64 (nowL rate (min x y) rs), .int .i64 (nowH rate (min x y) rs)]), (2, [.int .i64 r.1, .int .i64 r.2.1, .int .i64 r.2.2]), (1, [.int .i64 x, .int .i64 y, .int .i64 z]), (0, [.int .i64 rate, .sl 3 rs.length (List.flatMap rdC rs)])]⟩ (by (simp -dsimp only [↓z_wk, ↓z_wkE_cons, ↓lkW_cons, Nat.reduceEqDiff, ↓reduceIte, Nat.zero_add, Nat.reduceAdd, ↓z_wkE_nil, and_self, ↓z_wkO_cons, ↓lkoW_cons, reduceCtorEq, ↓z_wkO_nil]); (try simp only [Int.toNat_natCast, Nat.mul_one, Bool.or_false, Bool.false_or, Bool.or_self, Bool.or_true])) (key ())
  · refine call0_fn (fn_Latest G rate rs z q hq) fun _ => ?_
    (simp -dsimp only [↓z_put, Nat.reduceLT, ↓z_ops_plain, ↓z_move, ↓evW_tmp, ↓lkW_cons, ↓reduceIte, ↓z_extract, ↓z_ex, ↓nthW_cons, Nat.reduceEqDiff, reduceCtorEq, Nat.reduceSub, ↓z_assign, ↓z_ops_nil, ↓z_seq_nrm, ↓z_seq, ↓z_region, ↓z_load, ↓y_ty24, ↓y_sz24, ↓z_agTy_st, ↓loadW_ptr, ↓lkoW_cons, ↓z_rd_t, Nat.zero_add, List.length_cons, List.length_nil, Nat.reduceAdd, Nat.reduceLeDiff, ↓z_sub_c, ↓z_sub_nil, ↓z_callv, ↓evW_func, ↓z_evL_cons, ↓z_evL_nil, ↓z_fun0, ↓z_coeL_cons, ↓z_coe_oag, ↓z_coeC_cons, ↓z_coeS_int, ↓z_coeS_sl, ↓z_coeC_nil, ↓z_coe_int, ↓z_coeL_nil, true_and]); (try simp only [Int.toNat_natCast, Nat.mul_one, Bool.or_false, Bool.false_or, Bool.or_self, Bool.or_true])
    refine call_fn (fn_Earliest G rate rs z p hp) fun _ => ?_
    (simp (maxSteps := 4000000) -dsimp only [↓z_put, Nat.reduceLT, ↓z_ops_plain, ↓z_move, ↓evW_tmp, ↓lkW_cons, ↓reduceIte, ↓z_extract, ↓z_ex, ↓nthW_cons, Nat.reduceEqDiff, reduceCtorEq, Nat.reduceSub, ↓z_assign, ↓z_ops_nil, ↓z_seq_nrm, ↓z_seq, ↓z_region, ↓z_binOp, ↓evW_const, ↓constW_int, inR_i64, Int.reduceNeg, Int.reduceLE, and_self, ↓z_bn_eql, ↓z_ops_guard, ↓z_grd, ↓z_dst_s, ↓z_dst_0, ↓z_grdD_b, ↓z_gdt, ↓z_gtt, ↓z_bn_leq, ↓z_pick, ↓z_pick_b, ↓z_fieldAddr, ↓y_fl27x1, ↓y_sz3, ne_eq, not_false_eq_true, ↓z_fa_ptr, ↓z_load, ↓y_ty3, ↓z_agTy_int, ↓loadW_ptr, ↓lkoW_cons, ↓z_rd_f, Nat.zero_add, ↓z_bn_gtr, ↓z_gdf, ↓z_gnf, ↓z_gft, ↓z_grdD_u, ↓z_gnt, ↓z_gff, ↓constW_bool, ↓z_cond, ↓z_cnd, ↓z_ret, ↓z_seq_rt, ↓z_end_rt, resLW, res1W, Bool.not_false, ↓z_coeL_cons, ↓z_coeL_nil, ↓z_pack1, ↓z_coe_bool, D.bool.injEq, and_false, ↓z_skip, ↓z_bn_geq, ↓y_fl27x0, ↓z_bn_lss, ↓y_ty24, ↓y_sz24, ↓z_agTy_st, ↓z_rd_t, List.length_cons, List.length_nil, Nat.reduceAdd, Nat.reduceLeDiff, ↓z_sub_c, ↓z_sub_nil, ↓y_ty29, ↓y_sz29, ↓z_callv, ↓evW_func, ↓z_evL_cons, ↓z_evL_nil, ↓z_fun0, ↓z_coe_oag, ↓z_coeC_cons, ↓z_coeS_int, ↓z_coeS_sl, ↓z_coeC_nil, true_and, z_ite, ↓z_gtf, Bool.not_true]); (try simp only [Int.toNat_natCast, Nat.mul_one, Bool.or_false, Bool.false_or, Bool.or_self, Bool.or_true])
    have f1 : latE rate z rs q = 0 → nowE rate (min x y) rs = 0 → min x y ≤ latN rate z rs q → ¬ z < nowH rate (min x y) rs := fun h1 h2 => (lat_fact (hq hc) h1 h2).1
    have f2 : latE rate z rs q = 0 → nowE rate (max x y) rs = 0 → latN rate z rs q < max x y → ¬ nowH rate (max x y) rs ≤ z := fun h1 h2 => (lat_fact (hq hc) h1 h2).2
    have f3 : earE rate z rs p = 0 → nowE rate (min x y) rs = 0 → earN rate z rs p ≤ min x y → ¬ nowL rate (min x y) rs < z := fun h1 h2 => (ear_fact (hp hc) h1 h2).1
    have f4 : earE rate z rs p = 0 → nowE rate (max x y) rs = 0 → max x y < earN rate z rs p → ¬ z ≤ nowL rate (max x y) rs := fun h1 h2 => (ear_fact (hp hc) h1 h2).2
    apply merge
    rotate_left
    · intro key
      repeat' first
        | refine And.intro ?_ ?_
        | (show False; omega)
        | intro _
        | exact call_wk ⟨195, 5, [(3, .ptr 0 0), (5, .ptr 2 0), (7, .int .i64 (min x y)), (10, .ptr 3 0), (11, .int .i64 (nowE rate (min x y) rs))], [(4, [.int .i64 (nowL rate (max x y) rs), .int .i64 (nowH rate (max x y) rs)]), (3, [.int .i64 (nowL rate (min x y) rs), .int .i64 (nowH rate (min x y) rs)]), (2, [.int .i64 r.1, .int .i64 r.2.1, .int .i64 r.2.2]), (1, [.int .i64 x, .int .i64 y, .int .i64 z]), (0, [.int .i64 rate, .sl 3 rs.length (List.flatMap rdC rs)])]⟩ ⟨rfl, ⟨rfl, rfl, rfl, rfl, rfl, trivial⟩, ⟨rfl, rfl, rfl, rfl, rfl, trivial⟩⟩ (key ())
    · by_cases hs : synE rate rs r = 0
      · have e0 : synC rate rs r = clkA rate (synL rate rs r) := by unfold synC; rw [if_pos hs]
        rw [hs, e0] at hS
        unfold clkA at hS
        refine call0_fn hS fun _ => ?_
        (simp -dsimp only [↓z_put, Nat.reduceLT, ↓z_ops_plain, ↓z_move, ↓evW_tmp, ↓lkW_cons, ↓reduceIte, ↓z_extract, ↓z_ex, ↓nthW_cons, Nat.reduceEqDiff, reduceCtorEq, Nat.reduceSub, ↓z_alloc, ↓y_zr24, ↓z_new, ↓z_nm_cons, ↓z_nmC_cons, ↓z_mn'_int, ↓z_nmC_nil, and_self, ↓z_mn'_sl, ↓z_nm_nil, ↓z_pg_cons, ↓z_mn_int, ↓z_mn_agg, ↓z_mn_tup, ↓z_mn_ptr, ↓z_pg_nil, ↓z_store, ↓y_sz24, ↓z_cl_agg, List.length_cons, List.length_nil, Nat.zero_add, Nat.reduceAdd, ↓z_store_ptr, ↓lkoW_cons, Nat.reduceLeDiff, ↓spsW_cons, ↓drW_cons, ↓drW_nil, ↓z_cat_nil_r, ↓z_so_cons, ↓z_put_none, ↓z_assign, ↓z_ops_nil, ↓z_seq_nrm, ↓z_seq, ↓z_region, ↓z_binOp, ↓evW_const, ↓constW_int, inR_i64, Int.reduceNeg, Int.reduceLE, ↓z_bn_neq, ↓z_ops_guard, ↓z_grd, ↓z_dst_s, ↓z_dst_0, ↓z_grdD_b, ↓z_gdf, ne_eq, not_true_eq_false, ↓z_fieldAddr, ↓y_fl24x1, ↓y_sz22, not_false_eq_true, ↓z_fa_ptr, ↓z_gff, ↓z_load, ↓y_ty22, ↓z_agTy_sl, ↓loadW_ptr, ↓z_rd_f, ↓z_callb, ↓z_evL_cons, ↓z_evL_nil, ↓z_len, ↓z_ln_sl, ↓z_bn_geq, ↓z_pick, ↓z_pick_b, ↓z_gft, ↓z_cond, ↓z_cnd, ↓z_gdt, ↓z_callv, ↓evW_func, ↓z_fun0, ↓z_coeL_nil, ↓z_skip, ↓y_ty24, ↓z_agTy_st, ↓z_rd_t, ↓z_sub_c, ↓z_sub_nil, ↓z_coeL_cons, ↓z_coe_oag, ↓z_coeC_cons, ↓z_coeS_int, ↓z_coeS_sl, ↓z_coeC_nil, ↓z_coe_int, true_and, z_ite])
        refine ⟨fun g => call_fn (fn_sanity G) fun _ => by (simp -dsimp only [↓z_put, Nat.reduceLT, ↓z_ops_plain, ↓z_assign, ↓evW_tmp, ↓lkW_cons, ↓reduceIte, ↓z_ops_nil, ↓z_seq_nrm, ↓z_ret, ↓z_seq_rt, ↓z_end_rt, resLW, res1W, Nat.zero_add, ne_eq, not_true_eq_false, ↓z_coeL_cons, Nat.reduceAdd, ↓z_coeL_nil, ↓z_pack1, ↓z_coe_bool, and_self]); (try simp only [Int.toNat_natCast, Nat.mul_one, Bool.or_false, Bool.false_or, Bool.or_self, Bool.or_true]), fun g => ?_⟩
        refine call_fn (fn_Now G rate (min x y) (synL rate rs r)) fun _ => ?_
        (simp -dsimp only [↓z_put, Nat.reduceLT, ↓z_ops_plain, ↓z_move, ↓evW_tmp, ↓lkW_cons, ↓reduceIte, ↓z_extract, ↓z_ex, ↓nthW_cons, Nat.reduceEqDiff, reduceCtorEq, Nat.reduceSub, ↓z_alloc, ↓y_zr27, ↓z_new, ↓z_nm_cons, ↓z_nmC_cons, ↓z_mn'_int, ↓z_mn'_sl, ↓z_nmC_nil, and_self, ↓z_nm_nil, Nat.reduceAdd, ↓z_pg_cons, ↓z_mn_int, ↓z_mn_agg, ↓z_mn_tup, ↓z_mn_oag, ↓z_mnL_int, ↓z_mnL_sl, ↓z_mnL_nil, ↓z_mn_bool, ↓z_mn_sl, ↓z_mn_ptr, ↓z_pg_nil, ↓z_store, ↓y_sz27, ↓z_cl_agg, List.length_cons, List.length_nil, Nat.zero_add, ↓z_store_ptr, ↓lkoW_cons, Nat.reduceLeDiff, ↓spsW_cons, ↓drW_cons, ↓drW_nil, ↓z_cat_nil_r, ↓z_so_cons, ↓z_put_none, ↓z_assign, ↓z_ops_nil, ↓z_seq_nrm, ↓z_seq, ↓z_region, ↓z_callv, ↓evW_func, ↓z_evL_nil, ↓z_fun0, ↓z_coeL_nil, true_and])
        refine call_fn (fn_sanity G) fun _ => ?_
        (simp -dsimp only [↓z_put, Nat.reduceLT, ↓z_ops_plain, ↓z_move, ↓evW_tmp, ↓lkW_cons, ↓reduceIte, ↓z_ops_guard, ↓z_grd, ↓z_dst_s, ↓z_dst_0, ↓z_grdD_b, ↓z_gtt, Nat.reduceEqDiff, ↓z_binOp, ↓evW_const, ↓constW_int, inR_i64, Int.reduceNeg, Int.reduceLE, and_self, ↓z_bn_neq, ↓z_gdf, ne_eq, ↓z_gnf, ↓z_gft, ↓z_pick, ↓z_pick_b, ↓z_gnt, ↓z_gff, ↓constW_bool, ↓z_gtf, ↓z_grdD_u, ↓z_assign, ↓z_ops_nil, ↓z_seq_nrm, ↓z_ret, ↓z_end_rt, resLW, res1W, Bool.not_false, Nat.reduceAdd, Nat.zero_add, not_true_eq_false, ↓z_coeL_cons, ↓z_coeL_nil, ↓z_pack1, ↓z_coe_bool, ↓z_fieldAddr, ↓y_fl27x0, ↓y_sz3, reduceCtorEq, not_false_eq_true, ↓z_fa_ptr, ↓z_load, ↓y_ty3, ↓z_agTy_int, ↓loadW_ptr, ↓lkoW_cons, ↓z_rd_f, ↓nthW_cons, ↓z_bn_leq, ↓z_gdt, ↓y_fl27x1, Nat.reduceSub, D.bool.injEq, decide_eq_true_eq, true_and, Bool.not_true, and_false, z_ite, Classical.not_not]); (try simp only [Int.toNat_natCast, Nat.mul_one, Bool.or_false, Bool.false_or, Bool.or_self, Bool.or_true])
        exact ⟨fun _ => trivial, fun w1 => ⟨fun _ => trivial, fun w2 => ⟨fun _ => (sync_fact hs (by omega) w1 w2).2, fun w3 => w3 (sync_fact hs (by omega) w1 w2).1⟩⟩⟩
      · refine call0_fn hS fun _ => ?_
        (simp -dsimp only [↓z_put, Nat.reduceLT, ↓z_ops_plain, ↓z_move, ↓evW_tmp, ↓lkW_cons, ↓reduceIte, ↓z_extract, ↓z_ex, ↓nthW_cons, Nat.reduceEqDiff, reduceCtorEq, Nat.reduceSub, ↓z_alloc, ↓y_zr24, ↓z_new, ↓z_nm_cons, ↓z_nmC_cons, ↓z_mn'_int, ↓z_nmC_nil, and_self, ↓z_mn'_sl, ↓z_nm_nil, ↓z_pg_cons, ↓z_mn_int, ↓z_mn_agg, ↓z_mn_tup, ↓z_mn_ptr, ↓z_pg_nil, ↓z_store, ↓y_sz24, ↓z_cl_agg, ↓z_store_ptr, ↓lkoW_cons, Nat.zero_add, List.length_cons, List.length_nil, Nat.reduceAdd, Nat.reduceLeDiff, ↓spsW_cons, ↓drW_cons, ↓drW_nil, ↓z_cat_nil_r, ↓z_so_cons, ↓z_put_none, ↓z_assign, ↓z_ops_nil, ↓z_seq_nrm, ↓z_seq, ↓z_region, ↓z_binOp, ↓evW_const, ↓constW_int, inR_i64, Int.reduceNeg, Int.reduceLE, ↓z_bn_neq, ↓z_ops_guard, ↓z_grd, ↓z_dst_s, ↓z_dst_0, ↓z_grdD_b, ↓z_gdf, ne_eq, hs, not_false_eq_true, ↓z_gnf, ↓z_gft, ↓z_pick, ↓z_pick_b, ↓z_gnt, ↓z_gff, ↓constW_bool, ↓z_cond, ↓z_cnd, ↓z_gtt, ↓z_callv, ↓evW_func, ↓z_evL_nil, ↓z_fun0, ↓z_coeL_nil, true_and])
        refine ⟨by unfold synC; split <;> rfl, call_fn (fn_sanity G) fun _ => ?_⟩
        (simp -dsimp only [↓z_put, Nat.reduceLT, ↓z_ops_plain, ↓z_assign, ↓evW_tmp, ↓lkW_cons, ↓reduceIte, ↓z_ops_nil, ↓z_seq_nrm, ↓z_ret, ↓z_seq_rt, ↓z_end_rt, resLW, res1W, Bool.not_false, ne_eq, ↓z_coeL_cons, Nat.reduceAdd, ↓z_coeL_nil, ↓z_pack1, ↓z_coe_bool, and_self]); (try simp only [Int.toNat_natCast, Nat.mul_one, Bool.or_false, Bool.false_or, Bool.or_self, Bool.or_true])
end Go.Abs

