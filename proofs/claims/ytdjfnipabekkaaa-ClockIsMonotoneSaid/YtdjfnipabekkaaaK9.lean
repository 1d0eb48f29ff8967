/-
  CLOCK, ninth walks: a run goes on by a step, and what is known stays true.
-/
import Derived.Test.YtdjfnipabekkaaaK8
namespace Go.Abs
open Go.Proofs
set_option maxRecDepth 100000 in
set_option maxHeartbeats 8000000 in
theorem fn_when (G : Glob) (a b : Int) : Fn G Try.prog 34 [.int .i64 a, .int .i64 b] (.agg [.int .i64 a, .int .i64 b]) := by
  refine Fn.mk (c := _) Try.func34 rfl rfl Try.ntmps34 Try.results34 ?_
  (simp -dsimp only [bodyW, List.length_cons, List.length_nil, Nat.zero_add, Nat.reduceAdd, Nat.reduceLeDiff, wfL, ↓z_seq, ↓z_region, ↓z_ops_plain, ↓z_alloc, ↓y_zr27, ↓z_new, ↓z_nm_nil, Nat.reduceLT, ↓z_pg_env, ↓z_mn_int, ↓z_pg_env0, ↓z_put, ↓z_ops_nil, ↓z_seq_nrm, ↓z_move, ↓evW_tmp, ↓lkW_cons, reduceCtorEq, ↓reduceIte, Nat.reduceEqDiff, ↓z_build, ↓y_ty27, ↓z_blTy_st, ↓z_bld_cons, ↓y_fl27x0, ↓y_sz3, ↓z_cl_int, ↓spsW_cons, ↓drW_cons, Nat.reduceSub, ↓catW_cons, ↓catW_nil, ↓y_fl27x1, ↓drW_nil, ↓z_cat_nil_r, ↓z_bld_nil, ↓z_store, ↓y_sz27, ↓z_cl_oag, ↓z_store_ptr, ↓lkoW_cons, ↓z_so_cons, ↓z_put_none, ↓z_ret, ↓z_end_rt, resLW, res1W, ↓z_agTy_st, ↓z_coeL_cons, ↓z_coeL_nil, ↓z_pack1, ↓loadW_ptr, ↓z_rd_t, ↓z_sub_c, ↓z_sub_nil, ↓z_coe_oag, ↓z_coeC_cons, ↓z_coeS_int, ↓z_coeC_nil, and_self, and_true, true_and]); (try simp only [Int.toNat_natCast, Nat.mul_one, Bool.or_false, Bool.false_or, Bool.or_self, Bool.or_true])
  exact fun _ _ => rfl
set_option maxRecDepth 100000 in
set_option maxHeartbeats 8000000 in
theorem fn_few (G : Glob) (rate : Int) (rs : List Rd) : Fn G Try.prog 10 [.agg (clkA rate rs)] (.bool (decide (rs.length ≤ 20))) := by
  unfold clkA
  refine Fn.mk (c := _) Try.func10 rfl rfl Try.ntmps10 Try.results10 ?_
  (simp -dsimp only [bodyW, List.length_cons, List.length_nil, Nat.zero_add, Nat.reduceLeDiff, wfL, ↓z_seq, ↓z_region, ↓z_ops_plain, ↓z_box, ↓evW_tmp, ↓z_lk_env, ↓reduceIte, ↓z_cl_agg, ↓z_nmC_cons, ↓z_mn'_int, ↓z_mn'_sl, ↓z_nmC_nil, and_self, ↓z_new, ↓z_nm_nil, Nat.reduceLT, ↓z_pg_env, ↓z_mn_agg, ↓z_pg_env0, ↓z_put, ↓z_assign, ↓evW_const, ↓constW_bool, ↓z_ops_nil, ↓z_seq_nrm, ↓z_fieldAddr, ↓lkW_cons, Nat.reduceEqDiff, ↓y_fl24x1, ↓y_sz22, ne_eq, reduceCtorEq, not_false_eq_true, ↓z_fa_ptr, ↓z_load, ↓y_ty22, ↓z_agTy_sl, ↓loadW_ptr, ↓lkoW_cons, ↓z_rd_f, ↓nthW_cons, Nat.reduceSub, ↓z_callb, ↓z_evL_cons, ↓z_evL_nil, ↓z_len, ↓z_ln_sl, ↓z_binOp, ↓constW_int, inR_i64, Int.reduceNeg, Int.reduceLE, ↓z_bn_leq, ↓z_ret, ↓z_end_rt, resLW, res1W, ↓z_coeL_cons, ↓z_coeL_nil, ↓z_pack1, ↓z_coe_bool, D.bool.injEq, true_and]); (try simp only [Int.toNat_natCast, Nat.mul_one, Bool.or_false, Bool.false_or, Bool.or_self, Bool.or_true])
  exact fun _ => decide_eq_decide.2 (by omega)
abbrev Sp := Int × Int × Int × Int × Int
def spC (s : Sp) : List D := [.int .u16 s.1, .int .i32 s.2.1, .int .u8 s.2.2.1, .int .u8 s.2.2.2.1, .int .u8 s.2.2.2.2]
abbrev spP (s : Sp) : Prop := (0 ≤ s.1 ∧ s.1 ≤ 65535) ∧ (-2147483648 ≤ s.2.1 ∧ s.2.1 ≤ 2147483647) ∧ (0 ≤ s.2.2.1 ∧ s.2.2.1 ≤ 255) ∧ (0 ≤ s.2.2.2.1 ∧ s.2.2.2.1 ≤ 255) ∧ 0 ≤ s.2.2.2.2 ∧ s.2.2.2.2 ≤ 255
/-- A moment: the true instant, the value, the readings. -/
abbrev Mo := Int × Int × List Rd
def moA (rate : Int) (m : Mo) : List D := [.int .i64 m.1, .int .i64 m.2.1, .int .i64 rate, .sl 3 m.2.2.length (List.flatMap rdC m.2.2)]
def goN (s : Sp) : Int := s.1 % 500
def goD (rate : Int) (s : Sp) : Int := goN s * (1000000 + s.2.1.tmod (rate + 1))
def goL (rate : Int) (m : Mo) (s : Sp) : Int := (m.2.1 + goD rate s) / 1000000
def goAt (m : Mo) (s : Sp) : Int := m.1 + s.2.2.2.1 * goN s / 255
def goA (rate : Int) (m : Mo) (s : Sp) : Rd := ansR rate m.2.2 (m.2.1 / 1000000) (goL rate m s) (max 0 (goAt m s - s.2.2.2.2)) (goAt m s + s.2.2.2.1)
def goR (rate : Int) (m : Mo) (s : Sp) : Rd := if s.2.2.1 % 3 = 2 then goA rate m s else (goL rate m s, max 0 (m.1 + goN s - s.2.2.2.1), m.1 + goN s + s.2.2.2.2)
def goQ (rate : Int) (m : Mo) (s : Sp) : List Rd := if s.2.2.1 % 3 = 0 then m.2.2 else if synE rate m.2.2 (goR rate m s) = 0 then synL rate m.2.2 (goR rate m s) else m.2.2
def goM (rate : Int) (m : Mo) (s : Sp) : Mo := (m.1 + goN s, m.2.1 + goD rate s, goQ rate m s)
structure MoP (rate : Int) (k : Int) (m : Mo) : Prop where
  chk : chkC rate m.2.2 = 0
  n0 : 0 ≤ m.1
  n1 : m.1 ≤ 500 * k
  v0 : 0 ≤ m.2.1
  v1 : m.2.1 ≤ 15000000000 + 600000000 * k
  tr : ∀ r ∈ m.2.2, Tr m.1 m.2.1 rate r
theorem goN_b {s : Sp} : 0 ≤ goN s ∧ goN s ≤ 499 := by unfold goN; omega
theorem goD_b {rate : Int} {s : Sp} (h0 : 0 ≤ rate) : (1000000 - rate) * goN s ≤ goD rate s ∧ goD rate s ≤ (1000000 + rate) * goN s := by
  have b := goN_b (s := s)
  have t1 := Int.tmod_lt_of_pos s.2.1 (b := rate + 1) (by omega)
  have t2 := Int.lt_tmod_of_pos s.2.1 (b := rate + 1) (by omega)
  unfold goD
  rw [Int.mul_comm (1000000 - rate), Int.mul_comm (1000000 + rate)]
  exact ⟨Int.mul_le_mul_of_nonneg_left (by omega) b.1, Int.mul_le_mul_of_nonneg_left (by omega) b.1⟩
theorem goD_c {rate : Int} {s : Sp} (h0 : 0 ≤ rate) (h1 : rate ≤ 100000) : 0 ≤ goD rate s ∧ goD rate s ≤ 600000000 := by
  have b := goN_b (s := s)
  obtain ⟨d1, d2⟩ := goD_b (s := s) h0
  have e1 : 0 ≤ (1000000 - rate) * goN s := Int.mul_nonneg (by omega) b.1
  have e2 : (1000000 + rate) * goN s ≤ 1100000 * goN s := Int.mul_le_mul_of_nonneg_right (by omega) b.1
  omega
theorem goAt_b {m : Mo} {s : Sp} (h : spP s) : m.1 ≤ goAt m s ∧ goAt m s ≤ m.1 + goN s := by
  have b := goN_b (s := s)
  have e1 : 0 ≤ s.2.2.2.1 * goN s := Int.mul_nonneg h.2.2.2.1.1 b.1
  have e2 : s.2.2.2.1 * goN s ≤ 255 * goN s := Int.mul_le_mul_of_nonneg_right h.2.2.2.1.2 b.1
  unfold goAt
  omega
theorem go_ok {rate k : Int} {m : Mo} {s : Sp} (hm : MoP rate k m) (hk0 : 0 ≤ k) (hk : k < 30) (hs : spP s) :
    instP (goL rate m s) ∧ rdP (goR rate m s) ∧ (goR rate m s).1 = goL rate m s ∧ (goR rate m s).2.1 ≤ m.1 + goN s ∧ m.1 + goN s ≤ (goR rate m s).2.2 ∧
    (s.2.2.1 % 3 = 2 → ansE rate m.2.2 (m.2.1 / 1000000) (goL rate m s) (max 0 (goAt m s - s.2.2.2.2)) (goAt m s + s.2.2.2.1) = 0) ∧ MoP rate (k + 1) (goM rate m s) ∧
    ((synE rate m.2.2 (goR rate m s) = 15 ∧ 0 < m.2.2.length ∧ goL rate m s ≤ lastR m.2.2) ∨ synE rate m.2.2 (goR rate m s) = 0) := by
  obtain ⟨h1, h2, h3, h4, h5, h6⟩ := hm
  obtain ⟨c1, c2, _⟩ := chkC_ok h1
  have b := goN_b (s := s)
  have d := goD_b (s := s) c1
  have dc := goD_c (s := s) c1 c2
  have at' := goAt_b (m := m) hs
  have hsl := hs.2.2.2
  have hl : instP (goL rate m s) := by unfold goL; omega
  have hans := ans_true (now := m.1) (value := m.2.1) (n := goN s) (dv := goD rate s) (lo := max 0 (goAt m s - s.2.2.2.2)) (hi := goAt m s + s.2.2.2.1) h1 h2 h4 b.1 d.1 d.2 hl (by omega) (by omega) (by omega) (by omega)
  have hr : rdP (goR rate m s) ∧ (goR rate m s).1 = goL rate m s ∧ (goR rate m s).2.1 ≤ m.1 + goN s ∧ m.1 + goN s ≤ (goR rate m s).2.2 := by
    unfold goR
    split
    · exact ⟨hans.2.2.1, hans.2.1, hans.2.2.2⟩
    · exact ⟨⟨hl, by show valP (max 0 (m.1 + goN s - s.2.2.2.1)) (m.1 + goN s + s.2.2.2.2); omega⟩, rfl, by show max 0 (m.1 + goN s - s.2.2.2.1) ≤ m.1 + goN s; omega, by show m.1 + goN s ≤ m.1 + goN s + s.2.2.2.2; omega⟩
  have ht : ∀ r ∈ m.2.2, Tr (m.1 + goN s) (m.2.1 + goD rate s) rate r := fun r hr => (h6 r hr).adv b.1 d.1 d.2
  have hsy := sync_true (now := m.1 + goN s) (value := m.2.1 + goD rate s) (r := goR rate m s) h1 ht (by omega) (by omega) (by omega) hl hr.2.1 hr.1 hr.2.2.1 hr.2.2.2
  refine ⟨hl, hr.1, hr.2.1, hr.2.2.1, hr.2.2.2, fun _ => hans.1, ?_, ?_⟩
  · have hq : chkC rate (goQ rate m s) = 0 ∧ ∀ r ∈ goQ rate m s, Tr (m.1 + goN s) (m.2.1 + goD rate s) rate r := by
      unfold goQ
      split
      · exact ⟨h1, ht⟩
      · split
        · rename_i e
          rcases hsy with h | h
          · rw [e] at h; exact absurd h.1 (by decide)
          · exact h.2
        · exact ⟨h1, ht⟩
    exact ⟨hq.1, by show 0 ≤ m.1 + goN s; omega, by show m.1 + goN s ≤ _; omega, by show 0 ≤ m.2.1 + goD rate s; omega, by show m.2.1 + goD rate s ≤ _; omega, hq.2⟩
  · rcases hsy with h | h
    · exact .inl ⟨h.1, h.2.1, by rw [← hr.2.1]; exact h.2.2⟩
    · exact .inr h.1
set_option maxRecDepth 100000 in
set_option maxHeartbeats 16000000 in
theorem fn_goOn (G : Glob) (rate k : Int) (m : Mo) (s : Sp) (hm : MoP rate k m) (hk0 : 0 ≤ k) (hk : k < 30) (hs : spP s) : Fn G Try.prog 33 [.agg (moA rate m), .agg (spC s)] (.tup [.agg (moA rate (goM rate m s)), .bool true]) := by
  obtain ⟨g1, g2, g3, g4, g5, g6, g7, g8⟩ := go_ok hm hk0 hk hs
  obtain ⟨h1, h2, h3, h4, h5, h6⟩ := hm
  obtain ⟨c1, c2, c3, c4, c5⟩ := chkC_ok h1
  have b := goN_b (s := s)
  have d := goD_b (s := s) c1
  have dc := goD_c (s := s) c1 c2
  have at' := goAt_b (m := m) hs
  obtain ⟨s1, s2, s3, s4, s5⟩ := hs
  unfold moA spC
  refine Fn.mk (c := _) Try.func33 rfl rfl Try.ntmps33 Try.results33 ?_
  (simp -dsimp only [bodyW, List.length_cons, List.length_nil, Nat.zero_add, Nat.reduceAdd, Nat.reduceLeDiff, wfL, ↓z_seq, ↓z_region, ↓z_ops_plain, ↓z_box, ↓evW_tmp, ↓z_lk_env, ↓reduceIte, ↓z_cl_agg, ↓z_nmC_cons, ↓z_mn'_int, ↓z_mn'_sl, ↓z_nmC_nil, and_self, ↓z_new, ↓z_nm_nil, Nat.reduceLT, ↓z_pg_env, ↓z_mn_agg, ↓z_pg_env0, ↓z_put, ↓lkW_cons, Nat.reduceEqDiff, reduceCtorEq, ↓z_nm_cons, ↓z_pg_cons, ↓z_mn_ptr, ↓z_pg_nil, ↓z_alloc, ↓y_zr75, ↓z_assign, ↓evW_const, ↓constW_bool, ↓z_ops_nil, ↓z_seq_nrm, ↓z_region_d, ↓y_mix, true_and])
  intro _ _
  refine rgn_x 10 [] (by decide +kernel) ?_
  (simp -dsimp only [↓z_nmRE_cons, ↓z_nmR_bool, ↓z_nmR_ptr, Nat.zero_add, Nat.reduceAdd, Nat.reduceLT, Nat.reduceLeDiff, or_false, ↓z_nmR_agg, ↓z_nmRE_nil, and_self, ↓z_nmRO_cons, ↓z_nmRL_cons, ↓z_nmR_int, ↓z_nmR_nils, ↓z_nmRL_nil, ↓z_nmR_sl, ↓z_nmRO_nil, ↓z_splitO_cons, List.not_mem_nil, ↓reduceIte, ↓z_splitO_nil, List.take_succ_cons, List.take_zero, List.drop_succ_cons, List.drop_zero, ↓z_seq, ↓z_region, ↓z_ops_plain, ↓z_fieldAddr, ↓y_fl78x0, ↓y_sz69, ne_eq, reduceCtorEq, not_false_eq_true, ↓z_load, ↓y_ty69, ↓z_agTy_int, ↓z_convert, ↓y_ty3, ↓z_cvt_int, ↓z_binOp, ↓evW_const, ↓constW_int, inR_i64, Int.reduceNeg, Int.reduceLE, ↓z_assign, ↓z_ops_nil, ↓z_seq_nrm, ↓y_fl75x0, ↓y_sz3, ↓z_move, ↓z_store, ↓z_put_none, ↓z_region_d, ↓y_mix, true_and, resLW, res1W, ↓y_ty75, ↓y_sz75, ↓z_agTy_st, ↓z_coeL_cons, ↓z_coeL_nil, ↓z_pack2, D.tup.injEq, List.cons.injEq, and_true, ↓evW_tmp, ↓z_put, ↓lkW_cons, Nat.reduceEqDiff, ↓z_drx_fieldAddr, ↓z_drxS, ↓z_grd_none, ↓z_withE, ↓z_rd_tmp, ↓z_rd_nil, ↓z_ap_cons, ↓z_ap_nil, ↓z_apO_cons, ↓z_apO_nil, ↓y_fl75x2, ↓y_sz24, ↓z_fa_ptr, ↓z_exD_all, ↓z_exD_all2, ↓z_exD_eq, ↓z_drxK, ↓z_drx_load, ↓y_ty24, ↓loadW_ptr, ↓lkoW_cons, ↓z_rd_t, List.length_cons, List.length_nil, ↓z_sub_cs, ↓z_sub_c, ↓z_sub_nil, ↓z_nmR_oag, ↓z_nmRS_int, ↓z_nmRS_sl, ↓z_nmRS_nil, ↓y_fl75x1, ↓z_rd_f, ↓nthW_cons, Nat.reduceSub, ↓z_drx_binOp, ↓z_rd_const, ↓z_bn_quo, ↓z_quo_i64, Int.reduceEq, ↓z_exD_and, ↓z_drx_alloc, ↓y_zr24, ↓z_drx_store, ↓z_ptX, ↓z_noW_nil, ↓z_alW_cons, true_implies, ↓z_alW_nil, ↓z_cl_oag, ↓z_spl, ↓spsW_cons, ↓drW_cons, ↓drW_nil, ↓z_cat_nil_r, ↓z_so_cons, ↓z_drx_assign, ↓z_drx_nil, ↓z_cv_int, ↓z_cvi_u16_i64, ↓z_bn_rem, ↓z_rem_i64, ↓z_bn_add, ↓wrW_i64, ↓z_cl_int, ↓z_store_ptr, ↓catW_cons, ↓catW_nil])
  have e1 : s.1.tmod 500 = goN s := Int.tmod_eq_emod_of_nonneg (by omega)
  have e2 : m.2.1.tdiv 1000000 = m.2.1 / 1000000 := Int.tdiv_eq_ediv_of_nonneg h4
  rw [e1, e2]
  refine ⟨by omega, by omega, rgn_d (by decide +kernel) ?_⟩
  (simp -dsimp only [↓z_drw_fieldAddr, ↓z_drwS, ↓z_grd_none, ↓z_withE, ↓z_rd_tmp, ↓lkW_cons, Nat.reduceEqDiff, ↓reduceIte, ↓z_rd_nil, ↓z_ap_cons, ↓z_ap_nil, ↓z_fieldAddr, ↓evW_tmp, ↓y_fl75x1, ↓y_sz3, ne_eq, reduceCtorEq, not_false_eq_true, ↓z_fa_ptr, Nat.zero_add, Nat.reduceAdd, and_true, true_and, ↓z_exD_all, ↓z_exD_eq, ↓z_put, Nat.reduceLT, ↓z_drwK, ↓z_drw_load, ↓z_load, ↓y_ty3, ↓z_agTy_int, ↓loadW_ptr, ↓lkoW_cons, ↓z_rd_f, ↓nthW_cons, Nat.reduceSub, ↓z_drw_move, ↓z_move, ↓y_fl78x1, ↓y_sz21, ↓y_ty21, ↓z_drw_convert, ↓z_convert, ↓z_cvt_int, ↓z_cv_int, ↓z_cvi_i32_i64, ↓y_fl24x0, ↓z_drw_binOp, ↓z_rd_const, ↓z_binOp, ↓evW_const, ↓constW_int, inR_i64, Int.reduceNeg, Int.reduceLE, and_self, ↓z_bn_add, ↓wrW_i64, ↓z_exD_and, ↓z_bn_rem, ↓z_rem_i64, ↓z_bn_mul, ↓z_drw_store, ↓z_ops_plain, ↓z_store, ↓z_cl_int, List.length_cons, List.length_nil, ↓z_store_ptr, Nat.reduceLeDiff, ↓spsW_cons, ↓drW_cons, ↓catW_cons, ↓catW_nil, ↓z_so_cons, ↓z_put_none, ↓z_ops_nil, ↓z_seq_nrm, ↓z_seq, ↓z_region, ↓z_bn_quo, ↓z_quo_i64, Int.reduceEq, ↓z_assign, ↓y_fl75x0, ↓y_fl78x3, ↓y_sz5, ↓y_ty5, ↓z_cvi_u8_i64, ↓z_bn_sub, ↓z_callb, ↓z_evL_cons, ↓z_evL_nil, ↓z_max, ↓z_mx_max, ↓z_mx_nil, ↓y_fl78x4, ↓z_callv, ↓evW_func, ↓z_fun0, ↓z_coeL_cons, ↓z_coe_int, ↓z_coeL_nil])
  have t1 := Int.tmod_lt_of_pos s.2.1 (b := rate + 1) (by omega)
  have t2 := Int.lt_tmod_of_pos s.2.1 (b := rate + 1) (by omega)
  have e3 : goN s * (1000000 + s.2.1.tmod (rate + 1)) = goD rate s := rfl
  have e4 : (m.2.1 + goD rate s).tdiv 1000000 = goL rate m s := Int.tdiv_eq_ediv_of_nonneg (by omega)
  rw [e3, e4]
  refine ⟨by omega, by omega, by omega, by omega, by omega, by omega, by omega, by omega, call_fn (fn_when G _ _) fun _ => ?_⟩
  (simp -dsimp only [↓z_put, Nat.reduceLT, ↓z_ops_plain, ↓z_build, ↓y_ty29, ↓z_blTy_st, ↓y_zr29, ↓z_bld_cons, ↓y_fl29x0, ↓y_sz3, ↓evW_tmp, ↓lkW_cons, Nat.reduceEqDiff, ↓reduceIte, ↓z_cl_int, List.length_cons, List.length_nil, Nat.zero_add, Nat.reduceAdd, Nat.reduceLeDiff, ↓spsW_cons, ↓drW_cons, reduceCtorEq, Nat.reduceSub, ↓catW_cons, ↓catW_nil, ↓y_fl29x1, ↓y_sz27, ↓z_cl_agg, ↓drW_nil, ↓z_cat_nil_r, ↓z_bld_nil, ↓z_alloc, ↓z_new, ↓z_nm_cons, ↓z_nmC_cons, ↓z_mn'_int, ↓z_mn'_sl, ↓z_nmC_nil, and_self, ↓z_mn'_nils, ↓z_nm_nil, ↓z_pg_cons, ↓z_mn_oag, ↓z_mnL_int, ↓z_mnL_nil, ↓z_mn_agg, ↓z_mn_int, ↓z_mn_ptr, ↓z_mnL_sl, ↓z_mn_bool, ↓z_pg_nil, ↓z_store, ↓y_sz29, ↓z_cl_oag, ↓z_store_ptr, ↓lkoW_cons, ↓z_so_cons, ↓z_put_none, ↓z_ops_nil, ↓z_seq_nrm, ↓z_seq, ↓z_region, ↓z_fieldAddr, ↓y_fl78x2, ↓y_sz5, ne_eq, not_false_eq_true, ↓z_fa_ptr, ↓z_load, ↓y_ty5, ↓z_agTy_int, ↓loadW_ptr, ↓z_rd_f, ↓nthW_cons, ↓z_binOp, ↓evW_const, ↓constW_int, inR_u8, Int.reduceLE, ↓z_bn_rem, ↓z_rem_u8, Int.reduceEq, ↓z_block, ↓z_bn_eql, ↓z_assign, ↓z_cond, ↓z_cnd, ↓z_gdt, ↓y_ty75, ↓y_sz75, ↓z_agTy_st, ↓z_rd_t, ↓z_sub_c, ↓z_sub_nil, ↓constW_bool, ↓z_ret, ↓z_blk_rt, ↓z_seq_rt, ↓z_end_rt, resLW, res1W, ↓z_coeL_cons, ↓z_coeL_nil, ↓z_pack2, D.tup.injEq, List.cons.injEq, and_true, ↓z_coe_bool, ↓z_coe_oag, ↓z_coeC_cons, ↓z_coeS_int, ↓z_coeS_sl, ↓z_coeC_nil, D.agg.injEq, D.int.injEq, true_and, D.sl.injEq, ↓z_move, ↓y_fl78x3, ↓z_convert, ↓y_ty3, ↓z_cvt_int, ↓z_cv_int, ↓z_cvi_u8_i64, ↓z_bn_mul, ↓wrW_i64, inR_i64, Int.reduceNeg, ↓z_bn_quo, ↓z_quo_i64, ↓z_bn_add, ↓z_region_d, ↓y_mix, ↓z_skip, ↓z_blk_nrm, ↓y_ty24, ↓y_sz24, ↓z_callv, ↓evW_func, ↓z_evL_cons, ↓z_evL_nil, ↓z_fun0, z_ite])
  have q0 : s.2.2.1 % 3 = 0 → goQ rate m s = m.2.2 := fun h => by unfold goQ; rw [if_pos h]
  refine ⟨rfl, fun z => ⟨rfl, rfl, by show _ = (goQ rate m s).length; rw [q0 z], by show _ = List.flatMap rdC (goQ rate m s); rw [q0 z]⟩, fun z => ⟨fun z2 => ?_, fun z2 => ?_⟩⟩
  · have w1 : 0 ≤ s.2.2.2.1 * goN s := Int.mul_nonneg s4.1 b.1
    have w2 : s.2.2.2.1 * goN s ≤ 255 * goN s := Int.mul_le_mul_of_nonneg_right s4.2 b.1
    have e5 : (s.2.2.2.1 * goN s).tdiv 255 = s.2.2.2.1 * goN s / 255 := Int.tdiv_eq_ediv_of_nonneg w1
    have e6 : m.1 + s.2.2.2.1 * goN s / 255 = goAt m s := rfl
    rw [e5, e6]
    refine ⟨by omega, by omega, by omega, rgn_x 20 [4] (by decide +kernel) ?_⟩
    (simp -dsimp only [↓z_nmRE_cons, ↓z_nmR_int, ↓z_nmR_ptr, Nat.reduceAdd, Nat.reduceLT, Nat.reduceLeDiff, or_false, ↓z_nmR_bool, ↓z_nmR_oag, ↓z_nmRS_int, ↓z_nmRS_nil, ↓z_nmR_agg, ↓z_nmRS_sl, ↓z_nmRE_nil, and_self, ↓z_nmRO_cons, ↓z_nmRL_cons, ↓z_nmRL_nil, ↓z_nmR_sl, ↓z_nmR_nils, ↓z_nmRO_nil, ↓z_splitO_cons, List.mem_cons, List.not_mem_nil, ↓reduceIte, Nat.reduceEqDiff, reduceCtorEq, ↓z_splitO_nil, List.take_succ_cons, List.take_zero, Nat.zero_add, List.drop_succ_cons, List.drop_zero, ↓z_seq, ↓z_region, ↓z_ops_plain, ↓z_move, ↓z_binOp, ↓evW_const, ↓constW_int, inR_i64, Int.reduceNeg, Int.reduceLE, ↓z_ops_guard, ↓z_fieldAddr, ↓y_fl29x0, ↓y_sz3, ne_eq, not_false_eq_true, ↓z_load, ↓y_ty3, ↓z_agTy_int, ↓z_pick, ↓constW_bool, ↓y_fl29x1, ↓y_sz27, ↓y_fl27x0, ↓y_fl75x0, ↓y_fl27x1, ↓z_ops_nil, ↓z_seq_nrm, ↓z_cond, ↓y_ty75, ↓y_sz75, ↓z_agTy_st, ↓z_store, ↓z_put_none, ↓z_assign, ↓z_ret, ↓z_blk_rt, ↓z_seq_rt, ↓z_end_rt, resLW, res1W, ↓z_coeL_cons, ↓z_coeL_nil, ↓z_pack2, D.tup.injEq, List.cons.injEq, and_true, ↓z_skip, ↓z_blk_nrm, ↓y_ty24, ↓y_sz24, ↓y_ty29, ↓y_sz29, ↓z_callv, ↓evW_func, ↓z_evL_cons, ↓z_evL_nil, ↓z_fun0, true_and, ↓evW_tmp, ↓z_put, ↓lkW_cons, ↓z_grd, ↓z_dst_s, ↓z_dst_0, ↓z_drx_load, ↓z_drxS, ↓z_grd_none, ↓z_withE, ↓z_rd_tmp, ↓z_rd_nil, ↓z_ap_cons, ↓z_ap_nil, ↓z_apO_cons, ↓z_apO_nil, ↓loadW_ptr, ↓lkoW_cons, ↓z_rd_t, List.length_cons, List.length_nil, ↓z_sub_c, ↓z_sub_nil, ↓z_exD_all, ↓z_exD_all2, ↓z_exD_eq, ↓z_drxK, ↓z_drx_move, ↓z_drx_fieldAddr, ↓y_fl78x4, ↓y_sz5, ↓z_fa_ptr, ↓y_ty5, ↓z_rd_f, ↓nthW_cons, Nat.reduceSub, ↓z_drx_convert, ↓z_convert, ↓z_cvt_int, ↓z_cv_int, ↓z_cvi_u8_i64, ↓z_drx_binOp, ↓z_bn_sub, ↓wrW_i64, ↓z_exD_and, ↓z_drx_callb_max, ↓z_rd_const, ↓z_callb, ↓z_max, ↓z_mx_max, ↓z_mx_nil, ↓y_fl78x3, ↓z_bn_add, ↓z_drx_callv]); (try simp only [Int.toNat_natCast, Nat.mul_one, Bool.or_false, Bool.false_or, Bool.or_self, Bool.or_true])
    refine ⟨by omega, by omega, cv_ex ?_⟩
    (simp -dsimp only [↓z_drxA_callv, ↓z_grd_none, ↓z_withE, ↓z_rd_func, ↓z_rd_tmp, ↓lkW_cons, Nat.reduceEqDiff, ↓reduceIte, ↓z_rd_nil]); (try simp only [Int.toNat_natCast, Nat.mul_one, Bool.or_false, Bool.false_or, Bool.or_self, Bool.or_true])
    refine ex_mk (.agg [.int .i64 (max 0 (goAt m s - s.2.2.2.2)), .int .i64 (goAt m s + s.2.2.2.1)]) (fun E X => by
      (simp -dsimp only [↓z_ap_cons, ↓z_ap_nil, ↓z_apO_cons, ↓z_apO_nil, ↓z_callv, ↓evW_func, ↓z_evL_cons, ↓evW_tmp, ↓lkW_cons, ↓reduceIte, Nat.reduceEqDiff, ↓z_evL_nil, ↓z_fun0, ↓z_coeL_cons, ↓z_coe_int, ↓z_coeL_nil]); (try simp only [Int.toNat_natCast, Nat.mul_one, Bool.or_false, Bool.false_or, Bool.or_self, Bool.or_true])
      exact call_fn (fn_when G _ _) fun _ => ⟨rfl, rfl⟩) ?_
    (simp -dsimp only [↓z_nmR_agg, ↓z_put, Nat.reduceLT, ↓z_drxK, ↓z_drx_callv, true_and]); (try simp only [Int.toNat_natCast, Nat.mul_one, Bool.or_false, Bool.false_or, Bool.or_self, Bool.or_true])
    refine cv_ex ?_
    (simp -dsimp only [↓z_drxA_callv, ↓z_grd_none, ↓z_withE, ↓z_rd_func, ↓z_rd_tmp, ↓lkW_cons, Nat.reduceEqDiff, ↓reduceIte, ↓z_rd_nil]); (try simp only [Int.toNat_natCast, Nat.mul_one, Bool.or_false, Bool.false_or, Bool.or_self, Bool.or_true])
    have hA := fn_Answer G rate m.2.2 (m.2.1 / 1000000) (goL rate m s) (max 0 (goAt m s - s.2.2.2.2)) (goAt m s + s.2.2.2.1)
    have hR : goR rate m s = goA rate m s := by unfold goR; rw [if_pos z2]
    rw [g6 z2, show ansR rate m.2.2 (m.2.1 / 1000000) (goL rate m s) (max 0 (goAt m s - s.2.2.2.2)) (goAt m s + s.2.2.2.1) = goR rate m s from hR.symm] at hA
    unfold clkA rdC at hA
    refine ex_mk (.tup [.agg [.int .i64 (goR rate m s).1, .int .i64 (goR rate m s).2.1, .int .i64 (goR rate m s).2.2], .int .i64 0]) (fun E X => by
      (simp -dsimp only [↓z_ap_cons, ↓z_ap_nil, ↓z_apO_cons, ↓z_apO_nil, ↓z_callv, ↓evW_func, ↓z_evL_cons, ↓evW_tmp, ↓lkW_cons, ↓reduceIte, Nat.reduceEqDiff, ↓z_evL_nil, ↓z_fun0, ↓z_coeL_cons, ↓z_coe_oag, ↓z_coeC_cons, ↓z_coeS_int, ↓z_coeS_sl, ↓z_coeC_nil, ↓z_coe_int, ↓z_coe_agg, ↓z_coeL_nil]); (try simp only [Int.toNat_natCast, Nat.mul_one, Bool.or_false, Bool.false_or, Bool.or_self, Bool.or_true])
      exact call_fn hA fun _ => ⟨rfl, rfl⟩) ?_
    (simp -dsimp only [↓z_nmR_tup, ↓z_put, Nat.reduceLT, ↓z_drxK, ↓z_drx_move, ↓z_drxS, ↓z_grd_none, ↓z_withE, ↓z_rd_tmp, ↓lkW_cons, ↓reduceIte, ↓z_rd_nil, ↓z_ap_cons, ↓z_ap_nil, ↓z_apO_cons, ↓z_apO_nil, ↓z_move, ↓evW_tmp, and_true, ↓z_exD_all, ↓z_exD_all2, ↓z_exD_eq, ↓z_drx_extract, ↓z_extract, ↓z_ex, ↓nthW_cons, ↓z_nmR_agg, Nat.reduceEqDiff, reduceCtorEq, Nat.reduceSub, ↓z_nmR_int, ↓z_drx_store, ↓z_ptX, ↓z_noW_nil, ↓z_alW_nil, ↓y_sz29, ↓z_cl_agg, List.length_cons, List.length_nil, Nat.zero_add, Nat.reduceAdd, ↓z_nmRL_cons, ↓z_nmRL_nil, and_self, ↓lkoW_cons, Nat.reduceLeDiff, ↓z_spl, ↓spsW_cons, ↓drW_cons, ↓drW_nil, ↓z_cat_nil_r, ↓z_so_cons, ↓z_drx_nil, ↓z_bn_neq, ↓z_grdD_b, ↓z_gdf, ne_eq, not_true_eq_false, ↓z_fa_ptr, ↓z_grd, ↓z_dst_s, ↓z_dst_0, ↓z_gff, ↓loadW_ptr, ↓z_rd_f, ↓z_pick_b, ↓z_gft, ↓z_gnf, ↓z_gnt, ↓z_gtf, ↓z_cnd, ↓z_gtt, ↓z_rd_t, ↓z_sub_c, ↓z_sub_nil, ↓z_cl_oag, ↓z_store_ptr, Bool.not_false, ↓z_coe_bool, D.bool.injEq, and_false, ↓z_coe_oag, ↓z_coeC_cons, ↓z_coeS_int, ↓z_coeS_sl, ↓z_coeC_nil, ↓z_bn_gtr, ↓z_bn_lss, ↓z_gdt, true_and, z_ite, Classical.not_not]); (try simp only [Int.toNat_natCast, Nat.mul_one, Bool.or_false, Bool.false_or, Bool.or_self, Bool.or_true])
    refine ⟨fun h => absurd g3 h, fun _ => ⟨fun h => by omega, fun _ => ⟨fun h => by omega, fun _ => ?_⟩⟩⟩
    have hS := (fn_Sync G rate m.2.2 (goR rate m s)).fn
    have hl2 := rd_len m.2.2
    rcases g8 with ⟨e15, l1, l2⟩ | e0
    · have c15 : synC rate m.2.2 (goR rate m s) = [.int .i64 0, .sl 3 0 []] := by unfold synC; rw [e15, if_neg (by decide)]; rfl
      have q15 : goQ rate m s = m.2.2 := by unfold goQ; rw [if_neg z, e15, if_neg (by decide)]
      rw [e15, c15] at hS
      unfold clkA at hS
      refine call_fn (hS.inp (by rfl)) fun _ => ?_
      (simp -dsimp only [↓z_put, Nat.reduceLT, ↓z_ops_plain, ↓z_move, ↓evW_tmp, ↓lkW_cons, ↓reduceIte, ↓z_extract, ↓z_ex, ↓nthW_cons, Nat.reduceEqDiff, reduceCtorEq, Nat.reduceSub, ↓z_alloc, ↓y_zr24, ↓z_new, ↓z_nm_cons, ↓z_nmC_cons, ↓z_mn'_int, ↓z_nmC_nil, and_self, ↓z_mn'_sl, ↓z_mn'_nils, ↓z_nm_nil, ↓z_pg_cons, ↓z_mn_int, ↓z_mn_agg, ↓z_mn_tup, ↓z_mn_oag, ↓z_mnL_int, ↓z_mnL_nil, ↓z_mnL_sl, ↓z_mn_bool, ↓z_mn_ptr, ↓z_pg_nil, ↓z_store, ↓y_sz24, ↓z_cl_agg, List.length_cons, List.length_nil, Nat.zero_add, Nat.reduceAdd, ↓z_store_ptr, ↓lkoW_cons, Nat.reduceLeDiff, ↓spsW_cons, ↓drW_cons, ↓drW_nil, ↓z_cat_nil_r, ↓z_so_cons, ↓z_put_none, ↓z_assign, ↓z_ops_nil, ↓z_seq_nrm, ↓z_seq, ↓z_region, ↓z_binOp, ↓evW_const, ↓constW_int, inR_i64, Int.reduceNeg, Int.reduceLE, ↓z_bn_eql, ↓z_cond, ↓z_cnd, ↓z_gdt, ↓z_region_d, ↓y_mix, true_and])
      refine rgn_x 19 [2] (by decide +kernel) ?_
      (simp -dsimp only [↓z_nmRE_cons, ↓z_nmR_bool, ↓z_nmR_int, ↓z_nmR_ptr, Nat.reduceAdd, Nat.reduceLT, Nat.reduceLeDiff, or_false, ↓z_nmR_agg, ↓z_nmR_tup, ↓z_nmR_oag, ↓z_nmRS_int, ↓z_nmRS_nil, ↓z_nmRS_sl, ↓z_nmRE_nil, and_self, ↓z_nmRO_cons, ↓z_nmRL_cons, ↓z_nmR_sl, ↓z_nmRL_nil, ↓z_nmR_nils, ↓z_nmRO_nil, ↓z_splitO_cons, List.mem_cons, Nat.reduceEqDiff, List.not_mem_nil, ↓reduceIte, reduceCtorEq, ↓z_splitO_nil, List.take_succ_cons, List.take_zero, Nat.zero_add, ne_eq, not_true_eq_false, List.drop_succ_cons, List.drop_zero, ↓z_ret, ↓z_seq_rt, ↓z_end_rt, resLW, res1W, ↓y_ty75, ↓y_sz75, ↓z_agTy_st, ↓z_coeL_cons, ↓z_coeL_nil, ↓z_pack2, D.tup.injEq, List.cons.injEq, and_true, ↓z_seq, ↓z_region, ↓z_ops_plain, ↓z_load, ↓y_ty24, ↓y_sz24, ↓z_fieldAddr, ↓y_fl75x2, not_false_eq_true, ↓z_store, ↓z_put_none, ↓z_ops_nil, ↓z_seq_nrm, ↓z_move, ↓z_binOp, ↓evW_const, ↓constW_int, inR_i64, Int.reduceNeg, Int.reduceLE, ↓z_assign, true_and, ↓evW_tmp, ↓z_put, ↓lkW_cons, ↓z_drx_load, ↓z_drxS, ↓z_grd_none, ↓z_withE, ↓z_rd_tmp, ↓z_rd_nil, ↓z_ap_cons, ↓z_ap_nil, ↓z_apO_cons, ↓z_apO_nil, ↓loadW_ptr, ↓lkoW_cons, ↓z_rd_t, List.length_cons, List.length_nil, ↓z_sub_c, ↓z_sub_nil, ↓z_exD_all, ↓z_exD_all2, ↓z_exD_eq, ↓z_drxK, ↓z_drx_fieldAddr, ↓y_fl24x1, ↓y_sz22, ↓z_fa_ptr, ↓y_ty22, ↓z_agTy_sl, ↓z_rd_f, ↓nthW_cons, Nat.reduceSub, ↓z_drx_callb_len, ↓z_callb, ↓z_evL_cons, ↓z_evL_nil, ↓z_len, ↓z_ln_sl, ↓z_drx_binOp, ↓z_rd_const, ↓z_bn_gtr, ↓z_drx_move, ↓z_grd, ↓z_dst_s, ↓z_dst_0, ↓z_grdD_b, ↓z_gdt, ↓z_gtt, ↓z_bn_sub, ↓wrW_i64, ↓z_exD_and, ↓z_drx_indexAddr, ↓z_indexAddr, ↓z_elTy_sl, ↓y_sz29, ↓z_ix_sl, ↓z_nmR_rop, ↓y_fl29x0, ↓y_sz3, ↓z_fa_rop, ↓y_ty3, ↓z_agTy_int, ↓loadW_rop, nth_rd0, ↓z_exD_ex, ↓z_bn_geq, ↓z_drx_pick, ↓z_pick, ↓z_pick_b, ↓z_drx_store, ↓z_ptX, ↓z_noW_nil, ↓z_alW_nil, ↓z_cl_oag, ↓z_spl, ↓spsW_cons, ↓drW_cons, ↓drW_nil, ↓z_cat_nil_r, ↓z_so_cons, ↓z_drx_nil, ↓z_coe_oag, ↓z_coeC_cons, ↓z_coeS_int, ↓z_coeS_sl, ↓z_coeC_nil, ↓z_coe_bool, D.agg.injEq, D.int.injEq, D.sl.injEq, D.bool.injEq, decide_eq_true_eq, ↓z_gnt, ↓z_gtf, ↓constW_bool, Bool.not_true, and_false, z_ite]); (try simp only [Int.toNat_natCast, Nat.mul_one, Bool.or_false, Bool.false_or, Bool.or_self, Bool.or_true])
      refine ⟨fun _ => ⟨by omega, by omega, by omega, by omega, ⟨rfl, rfl, by show _ = (goQ rate m s).length; rw [q15], by show _ = List.flatMap rdC (goQ rate m s); rw [q15]⟩, ?_⟩, fun h => by omega⟩
      rw [lastR_at l1] at l2; exact l2
    · have c0 : synC rate m.2.2 (goR rate m s) = clkA rate (synL rate m.2.2 (goR rate m s)) := by unfold synC; rw [e0, if_pos rfl]
      have q00 : goQ rate m s = synL rate m.2.2 (goR rate m s) := by unfold goQ; rw [if_neg z, e0, if_pos rfl]
      rw [e0, c0] at hS
      unfold clkA at hS
      refine call_fn (hS.inp (by rfl)) fun _ => ?_
      (simp -dsimp only [↓z_put, Nat.reduceLT, ↓z_ops_plain, ↓z_move, ↓evW_tmp, ↓lkW_cons, ↓reduceIte, ↓z_extract, ↓z_ex, ↓nthW_cons, Nat.reduceEqDiff, reduceCtorEq, Nat.reduceSub, ↓z_alloc, ↓y_zr24, ↓z_new, ↓z_nm_cons, ↓z_nmC_cons, ↓z_mn'_int, ↓z_nmC_nil, and_self, ↓z_mn'_sl, ↓z_mn'_nils, ↓z_nm_nil, ↓z_pg_cons, ↓z_mn_int, ↓z_mn_agg, ↓z_mn_tup, ↓z_mn_oag, ↓z_mnL_int, ↓z_mnL_nil, ↓z_mnL_sl, ↓z_mn_bool, ↓z_mn_ptr, ↓z_pg_nil, ↓z_store, ↓y_sz24, ↓z_cl_agg, List.length_cons, List.length_nil, Nat.zero_add, Nat.reduceAdd, ↓z_store_ptr, ↓lkoW_cons, Nat.reduceLeDiff, ↓spsW_cons, ↓drW_cons, ↓drW_nil, ↓z_cat_nil_r, ↓z_so_cons, ↓z_put_none, ↓z_assign, ↓z_ops_nil, ↓z_seq_nrm, ↓z_seq, ↓z_region, ↓z_binOp, ↓evW_const, ↓constW_int, inR_i64, Int.reduceNeg, Int.reduceLE, ↓z_bn_eql, ↓z_cond, ↓z_cnd, ↓z_gdt, Int.reduceEq, ↓z_skip, ↓z_load, ↓y_ty24, ↓z_agTy_st, ↓loadW_ptr, ↓z_rd_t, ↓z_sub_c, ↓z_sub_nil, ↓z_fieldAddr, ↓y_fl75x2, ne_eq, not_false_eq_true, ↓z_fa_ptr, ↓z_cl_oag, ↓y_ty75, ↓y_sz75, ↓z_ret, ↓z_end_rt, resLW, res1W, not_true_eq_false, ↓z_coeL_cons, ↓z_coeL_nil, ↓z_pack2, D.tup.injEq, List.cons.injEq, and_true, ↓z_coe_bool, D.bool.injEq, decide_eq_true_eq, ↓z_coe_oag, ↓z_coeC_cons, ↓z_coeS_int, ↓z_coeS_sl, ↓z_coeC_nil, D.agg.injEq, D.int.injEq, true_and, D.sl.injEq]); (try simp only [Int.toNat_natCast, Nat.mul_one, Bool.or_false, Bool.false_or, Bool.or_self, Bool.or_true])
      exact ⟨rfl, rfl, by show _ = (goQ rate m s).length; rw [q00], by show _ = List.flatMap rdC (goQ rate m s); rw [q00]⟩
  · have hR : goR rate m s = (goL rate m s, max 0 (m.1 + goN s - s.2.2.2.1), m.1 + goN s + s.2.2.2.2) := by unfold goR; rw [if_neg z2]
    have hS := (fn_Sync G rate m.2.2 (goR rate m s)).fn
    have hl2 := rd_len m.2.2
    rcases g8 with ⟨e15, l1, l2⟩ | e0
    · have c15 : synC rate m.2.2 (goR rate m s) = [.int .i64 0, .sl 3 0 []] := by unfold synC; rw [e15, if_neg (by decide)]; rfl
      have q15 : goQ rate m s = m.2.2 := by unfold goQ; rw [if_neg z, e15, if_neg (by decide)]
      rw [e15, c15] at hS
      unfold clkA at hS
      refine call_fn (hS.inp (by rw [hR])) fun _ => ?_
      (simp -dsimp only [↓z_put, Nat.reduceLT, ↓z_ops_plain, ↓z_move, ↓evW_tmp, ↓lkW_cons, ↓reduceIte, ↓z_extract, ↓z_ex, ↓nthW_cons, Nat.reduceEqDiff, reduceCtorEq, Nat.reduceSub, ↓z_alloc, ↓y_zr24, ↓z_new, ↓z_nm_cons, ↓z_nmC_cons, ↓z_mn'_int, ↓z_nmC_nil, and_self, ↓z_mn'_sl, ↓z_mn'_nils, ↓z_nm_nil, Nat.reduceAdd, ↓z_pg_cons, ↓z_mn_int, ↓z_mn_agg, ↓z_mn_tup, ↓z_mn_oag, ↓z_mnL_int, ↓z_mnL_nil, ↓z_mnL_sl, ↓z_mn_bool, ↓z_mn_ptr, ↓z_pg_nil, ↓z_store, ↓y_sz24, ↓z_cl_agg, List.length_cons, List.length_nil, Nat.zero_add, ↓z_store_ptr, ↓lkoW_cons, Nat.reduceLeDiff, ↓spsW_cons, ↓drW_cons, ↓drW_nil, ↓z_cat_nil_r, ↓z_so_cons, ↓z_put_none, ↓z_assign, ↓z_ops_nil, ↓z_seq_nrm, ↓z_seq, ↓z_region, ↓z_binOp, ↓evW_const, ↓constW_int, inR_i64, Int.reduceNeg, Int.reduceLE, ↓z_bn_eql, ↓z_cond, ↓z_cnd, ↓z_gdt, ↓z_region_d, ↓y_mix, true_and])
      refine rgn_x 19 [2] (by decide +kernel) ?_
      (simp -dsimp only [↓z_nmRE_cons, ↓z_nmR_bool, ↓z_nmR_int, ↓z_nmR_ptr, Nat.reduceAdd, Nat.reduceLT, Nat.reduceLeDiff, or_false, ↓z_nmR_agg, ↓z_nmR_tup, ↓z_nmR_oag, ↓z_nmRS_int, ↓z_nmRS_nil, ↓z_nmRS_sl, ↓z_nmRE_nil, and_self, ↓z_nmRO_cons, ↓z_nmRL_cons, ↓z_nmR_sl, ↓z_nmRL_nil, ↓z_nmR_nils, ↓z_nmRO_nil, ↓z_splitO_cons, List.mem_cons, Nat.reduceEqDiff, List.not_mem_nil, ↓reduceIte, reduceCtorEq, ↓z_splitO_nil, List.take_succ_cons, List.take_zero, Nat.zero_add, List.drop_succ_cons, List.drop_zero, ↓z_ret, ↓z_seq_rt, ↓z_end_rt, resLW, res1W, ↓y_ty75, ↓y_sz75, ↓z_agTy_st, ↓z_coeL_cons, ↓z_coeL_nil, ↓z_pack2, D.tup.injEq, List.cons.injEq, and_true, ↓z_seq, ↓z_region, ↓z_ops_plain, ↓z_load, ↓y_ty24, ↓y_sz24, ↓z_fieldAddr, ↓y_fl75x2, ne_eq, not_false_eq_true, ↓z_store, ↓z_put_none, ↓z_ops_nil, ↓z_seq_nrm, ↓z_move, ↓z_binOp, ↓evW_const, ↓constW_int, inR_i64, Int.reduceNeg, Int.reduceLE, ↓z_assign, true_and, ↓evW_tmp, ↓z_put, ↓lkW_cons, ↓z_drx_load, ↓z_drxS, ↓z_grd_none, ↓z_withE, ↓z_rd_tmp, ↓z_rd_nil, ↓z_ap_cons, ↓z_ap_nil, ↓z_apO_cons, ↓z_apO_nil, ↓loadW_ptr, ↓lkoW_cons, ↓z_rd_t, List.length_cons, List.length_nil, ↓z_sub_c, ↓z_sub_nil, ↓z_exD_all, ↓z_exD_all2, ↓z_exD_eq, ↓z_drxK, ↓z_drx_fieldAddr, ↓y_fl24x1, ↓y_sz22, ↓z_fa_ptr, ↓y_ty22, ↓z_agTy_sl, ↓z_rd_f, ↓nthW_cons, Nat.reduceSub, ↓z_drx_callb_len, ↓z_callb, ↓z_evL_cons, ↓z_evL_nil, ↓z_len, ↓z_ln_sl, ↓z_drx_binOp, ↓z_rd_const, ↓z_bn_gtr, ↓z_drx_move, ↓z_grd, ↓z_dst_s, ↓z_dst_0, ↓z_grdD_b, ↓z_gdt, ↓z_gtt, ↓z_bn_sub, ↓wrW_i64, ↓z_exD_and, ↓z_drx_indexAddr, ↓z_indexAddr, ↓z_elTy_sl, ↓y_sz29, ↓z_ix_sl, ↓z_nmR_rop, ↓y_fl29x0, ↓y_sz3, ↓z_fa_rop, ↓y_ty3, ↓z_agTy_int, ↓loadW_rop, nth_rd0, ↓z_exD_ex, ↓z_bn_geq, ↓z_drx_pick, ↓z_pick, ↓z_pick_b, ↓z_drx_store, ↓z_ptX, ↓z_noW_nil, ↓z_alW_nil, ↓z_cl_oag, ↓z_spl, ↓spsW_cons, ↓drW_cons, ↓drW_nil, ↓z_cat_nil_r, ↓z_so_cons, ↓z_drx_nil, ↓z_coe_oag, ↓z_coeC_cons, ↓z_coeS_int, ↓z_coeS_sl, ↓z_coeC_nil, ↓z_coe_bool, D.agg.injEq, D.int.injEq, D.sl.injEq, D.bool.injEq, decide_eq_true_eq, ↓z_gnt, ↓z_gtf, ↓constW_bool, Bool.not_true, and_false, z_ite]); (try simp only [Int.toNat_natCast, Nat.mul_one, Bool.or_false, Bool.false_or, Bool.or_self, Bool.or_true])
      refine ⟨fun _ => ⟨by omega, by omega, by omega, by omega, ⟨rfl, rfl, by show _ = (goQ rate m s).length; rw [q15], by show _ = List.flatMap rdC (goQ rate m s); rw [q15]⟩, ?_⟩, fun h => by omega⟩
      rw [lastR_at l1] at l2; exact l2
    · have c0 : synC rate m.2.2 (goR rate m s) = clkA rate (synL rate m.2.2 (goR rate m s)) := by unfold synC; rw [e0, if_pos rfl]
      have q00 : goQ rate m s = synL rate m.2.2 (goR rate m s) := by unfold goQ; rw [if_neg z, e0, if_pos rfl]
      rw [e0, c0] at hS
      unfold clkA at hS
      refine call_fn (hS.inp (by rw [hR])) fun _ => ?_
      (simp -dsimp only [↓z_put, Nat.reduceLT, ↓z_ops_plain, ↓z_move, ↓evW_tmp, ↓lkW_cons, ↓reduceIte, ↓z_extract, ↓z_ex, ↓nthW_cons, Nat.reduceEqDiff, reduceCtorEq, Nat.reduceSub, ↓z_alloc, ↓y_zr24, ↓z_new, ↓z_nm_cons, ↓z_nmC_cons, ↓z_mn'_int, ↓z_nmC_nil, and_self, ↓z_mn'_sl, ↓z_mn'_nils, ↓z_nm_nil, Nat.reduceAdd, ↓z_pg_cons, ↓z_mn_int, ↓z_mn_agg, ↓z_mn_tup, ↓z_mn_oag, ↓z_mnL_int, ↓z_mnL_nil, ↓z_mnL_sl, ↓z_mn_bool, ↓z_mn_ptr, ↓z_pg_nil, ↓z_store, ↓y_sz24, ↓z_cl_agg, List.length_cons, List.length_nil, Nat.zero_add, ↓z_store_ptr, ↓lkoW_cons, Nat.reduceLeDiff, ↓spsW_cons, ↓drW_cons, ↓drW_nil, ↓z_cat_nil_r, ↓z_so_cons, ↓z_put_none, ↓z_assign, ↓z_ops_nil, ↓z_seq_nrm, ↓z_seq, ↓z_region, ↓z_binOp, ↓evW_const, ↓constW_int, inR_i64, Int.reduceNeg, Int.reduceLE, ↓z_bn_eql, ↓z_cond, ↓z_cnd, ↓z_gdt, Int.reduceEq, ↓z_skip, ↓z_load, ↓y_ty24, ↓z_agTy_st, ↓loadW_ptr, ↓z_rd_t, ↓z_sub_c, ↓z_sub_nil, ↓z_fieldAddr, ↓y_fl75x2, ne_eq, not_false_eq_true, ↓z_fa_ptr, ↓z_cl_oag, ↓y_ty75, ↓y_sz75, ↓z_ret, ↓z_end_rt, resLW, res1W, ↓z_coeL_cons, ↓z_coeL_nil, ↓z_pack2, D.tup.injEq, List.cons.injEq, and_true, ↓z_coe_bool, D.bool.injEq, decide_eq_true_eq, ↓z_coe_oag, ↓z_coeC_cons, ↓z_coeS_int, ↓z_coeS_sl, ↓z_coeC_nil, D.agg.injEq, D.int.injEq, true_and, D.sl.injEq]); (try simp only [Int.toNat_natCast, Nat.mul_one, Bool.or_false, Bool.false_or, Bool.or_self, Bool.or_true])
      exact ⟨rfl, rfl, by show _ = (goQ rate m s).length; rw [q00], by show _ = List.flatMap rdC (goQ rate m s); rw [q00]⟩
set_option maxRecDepth 100000 in
set_option maxHeartbeats 8000000 in
theorem fn_begun (G : Glob) (a b : Int) (ha : 0 ≤ a) (hb : 0 ≤ b) (hb1 : b ≤ 4294967295) (L : List D) (k : Nat) : Fn G Try.prog 32 [.agg [.int .u32 a, .int .u32 b, .sl 5 k L]] (.agg (moA (a % 100001) (0, b % 100000 * 1000000 / 7, []))) := by
  refine Fn.outW (d' := .agg [.int .i64 0, .int .i64 (b % 100000 * 1000000 / 7), .int .i64 (a % 100001), .nils]) ?_ (.agg (.cons (.refl _) (.cons (.refl _) (.cons (.refl _) (.cons (.nils 3) .nil)))))
  refine Fn.mk (c := _) Try.func32 rfl rfl Try.ntmps32 Try.results32 ?_
  (simp -dsimp only [bodyW, List.length_cons, List.length_nil, Nat.zero_add, Nat.reduceLeDiff, wfL, ↓z_seq, ↓z_region, ↓z_ops_plain, ↓z_box, ↓evW_tmp, ↓z_lk_env, ↓reduceIte, ↓z_cl_agg, ↓z_nmC_cons, ↓z_mn'_int, ↓z_mn'_sl, ↓z_nmC_nil, and_self, ↓z_new, ↓z_nm_nil, Nat.reduceLT, ↓z_pg_env, ↓z_mn_agg, ↓z_pg_env0, ↓z_put, ↓z_alloc, ↓y_zr75, ↓z_nm_cons, ↓z_pg_cons, ↓z_mn_ptr, reduceCtorEq, ↓z_pg_nil, ↓z_ops_nil, ↓z_seq_nrm, ↓z_fieldAddr, ↓lkW_cons, Nat.reduceEqDiff, ↓y_fl73x1, ↓y_sz68, ne_eq, not_false_eq_true, ↓z_fa_ptr, ↓z_load, ↓y_ty68, ↓z_agTy_int, ↓loadW_ptr, ↓lkoW_cons, ↓z_rd_f, ↓nthW_cons, Nat.reduceSub, ↓z_convert, ↓y_ty3, ↓z_cvt_int, ↓z_cv_int, ↓z_cvi_u32_i64, ↓z_binOp, ↓evW_const, ↓constW_int, inR_i64, Int.reduceNeg, Int.reduceLE, ↓z_bn_rem, ↓z_rem_i64, Int.reduceEq, ↓z_bn_mul, ↓wrW_i64, ↓z_bn_quo, ↓z_quo_i64, ↓y_fl73x0, ↓z_build, ↓y_ty24, ↓z_blTy_st, ↓y_zr24, ↓z_bld_cons, ↓y_fl24x0, ↓y_sz3, ↓z_cl_int, Nat.reduceAdd, ↓spsW_cons, ↓drW_cons, ↓catW_cons, ↓catW_nil, ↓z_bld_nil, ↓y_ty75, ↓y_fl75x1, ↓y_fl75x2, ↓y_sz24, ↓z_cl_oag, ↓drW_nil, ↓z_cat_nil_r, ↓z_store, ↓y_sz75, ↓z_store_ptr, ↓z_so_cons, ↓z_put_none, ↓z_ret, ↓z_end_rt, resLW, res1W, ↓z_agTy_st, ↓z_coeL_cons, ↓z_coeL_nil, ↓z_pack1, ↓z_rd_t, ↓z_sub_c, ↓z_sub_nil, ↓z_coe_oag, ↓z_coeC_cons, ↓z_coeS_int, ↓z_coeS_nils, ↓z_coeC_nil, D.agg.injEq, List.cons.injEq, D.int.injEq, true_and, and_true]); (try simp only [Int.toNat_natCast, Nat.mul_one, Bool.or_false, Bool.false_or, Bool.or_self, Bool.or_true])
  intro _
  have m0 : 0 ≤ b % 100000 := by omega
  rw [Int.tmod_eq_emod_of_nonneg (a := b) (b := 100000) (by omega), Int.tmod_eq_emod_of_nonneg (a := a) (b := 100001) (by omega), Int.tdiv_eq_ediv_of_nonneg (a := b % 100000 * 1000000) (b := 7) (by omega)]
  exact ⟨by omega, by omega, rfl, rfl, rfl, rfl⟩
end Go.Abs

