/-
  CLOCK, second walks: readings; the first error of a clock.
-/
import Derived.Test.YtdjfnipabekkaaaK1
namespace Go.Abs
open Go.Proofs

/-- A reading: what was shown; the least and the greatest instant. -/
abbrev Rd := Int × Int × Int
def rdC (r : Rd) : List D := [.int .i64 r.1, .int .i64 r.2.1, .int .i64 r.2.2]
theorem rd_len (rs : List Rd) : (List.flatMap rdC rs).length = rs.length * 3 := by
  induction rs with
  | nil => rfl
  | cons r rs ih => simp only [List.flatMap_cons, List.length_append, ih, List.length_cons]; simp [rdC]; omega
theorem rd_at : ∀ {rs : List Rd} {j : Nat} (h : j < rs.length), ((List.flatMap rdC rs).drop (j * 3)).take 3 = [.int .i64 rs[j].1, .int .i64 rs[j].2.1, .int .i64 rs[j].2.2]
  | r :: rs, 0, h => by simp [List.flatMap_cons, rdC]
  | r :: rs, j + 1, h => by
    have e : (rdC r).length = 3 := rfl
    rw [List.flatMap_cons, List.drop_append, List.drop_eq_nil_of_le (by rw [e]; omega), List.nil_append, e, show (j + 1) * 3 - 3 = j * 3 by omega, rd_at (by simpa using h)]
    rfl
theorem rd_flS (r : List Rd) : ∀ c ∈ List.flatMap rdC r, flS c = true := by
  intro c hc
  obtain ⟨x, _, hx⟩ := List.mem_flatMap.1 hc
  simp only [rdC, List.mem_cons, List.not_mem_nil, or_false] at hx
  rcases hx with rfl | rfl | rfl <;> rfl
theorem rd_frC (r : List Rd) : frC (List.flatMap rdC r) = True := eq_true (rd_flS r)
theorem rd_allP (r : List Rd) : allP (List.flatMap rdC r) = True := eq_true fun c hc => flS_isP (rd_flS r c hc)
theorem rd_nmC (id : Nat) (r : List Rd) : nmC id (List.flatMap rdC r) = True := eq_true fun c hc => by
  have := rd_flS r c hc
  cases c <;> first | rfl | (simp [flS] at this)
theorem rd_nmRL (a : Nat) (r : List Rd) : nmRL a (List.flatMap rdC r) = True := eq_true fun c hc => nmR_P (flS_isP (rd_flS r c hc))
theorem rd_ltL (a : Nat) (r : List Rd) : ltL a (List.flatMap rdC r) = True := eq_true (ltL_P fun c hc => flS_isP (rd_flS r c hc))
theorem rd_mapS (a : Nat) (r : List Rd) : List.map (shS a) (List.flatMap rdC r) = List.flatMap rdC r := mapS_P a fun c hc => flS_isP (rd_flS r c hc)
theorem nthW_iff {cs : List D} {i : Nat} {d : D} {k : D → Prop} (h : cs[i]? = some d) : nthW cs i k = k d := by
  obtain ⟨h1, rfl⟩ := List.getElem?_eq_some_iff.1 h
  exact propext ⟨fun ⟨_, h⟩ => h, fun h => ⟨h1, h⟩⟩
theorem nthW_none {cs : List D} {i : Nat} {k : D → Prop} (h : cs[i]? = none) : nthW cs i k = False :=
  eq_false fun ⟨h1, _⟩ => by rw [List.getElem?_eq_none_iff] at h; omega
theorem rd_get {rs : List Rd} {j : Nat} (h : j < rs.length) : (List.flatMap rdC rs)[j * 3]? = some (.int .i64 rs[j].1) ∧ (List.flatMap rdC rs)[j * 3 + 1]? = some (.int .i64 rs[j].2.1) ∧ (List.flatMap rdC rs)[j * 3 + 2]? = some (.int .i64 rs[j].2.2) := by
  have h1 := rd_at h
  have g : ∀ c, c < 3 → (List.flatMap rdC rs)[j * 3 + c]? = (((List.flatMap rdC rs).drop (j * 3)).take 3)[c]? := fun c hc => by
    rw [List.getElem?_take_of_lt hc, List.getElem?_drop]
  exact ⟨by rw [show j * 3 = j * 3 + 0 from rfl, g 0 (by omega), h1]; rfl, by rw [g 1 (by omega), h1]; rfl, by rw [g 2 (by omega), h1]; rfl⟩
theorem nth_rd0 (rs : List Rd) (j : Nat) (k : D → Prop) : nthW (List.flatMap rdC rs) (j * 3 + 0) k = ∃ h : j < rs.length, k (.int .i64 rs[j].1) := by
  rw [Nat.add_zero]
  by_cases h : j < rs.length
  · rw [nthW_iff (rd_get h).1]; simp [h]
  · rw [nthW_none (by rw [List.getElem?_eq_none_iff, rd_len]; omega)]; simp [h]
theorem nth_rd1 (rs : List Rd) (j : Nat) (k : D → Prop) : nthW (List.flatMap rdC rs) (j * 3 + 1) k = ∃ h : j < rs.length, k (.int .i64 rs[j].2.1) := by
  by_cases h : j < rs.length
  · rw [nthW_iff (rd_get h).2.1]; simp [h]
  · rw [nthW_none (by rw [List.getElem?_eq_none_iff, rd_len]; omega)]; simp [h]
theorem nth_rd2 (rs : List Rd) (j : Nat) (k : D → Prop) : nthW (List.flatMap rdC rs) (j * 3 + 2) k = ∃ h : j < rs.length, k (.int .i64 rs[j].2.2) := by
  by_cases h : j < rs.length
  · rw [nthW_iff (rd_get h).2.2]; simp [h]
  · rw [nthW_none (by rw [List.getElem?_eq_none_iff, rd_len]; omega)]; simp [h]
abbrev rdP (r : Rd) : Prop := instP r.1 ∧ valP r.2.1 r.2.2
def chkR : List Rd → Int → Int
  | [], _ => 0
  | r :: q, last => if ¬ rdP r then 3 else if r.1 ≤ last then 1 else chkR q r.1
def chkC (rate : Int) (rs : List Rd) : Int := if rate < 0 ∨ 100000 < rate then 3 else if 16 < rs.length then 2 else chkR rs (-1)
def lastI (rs : List Rd) (i : Nat) : Int := if i = 0 then -1 else (rs.getD (i - 1) (0, 0, 0)).1
theorem lastI_s {rs : List Rd} {i : Nat} (h : i < rs.length) : lastI rs (i + 1) = rs[i].1 := by
  unfold lastI; rw [if_neg (by omega), Nat.add_sub_cancel]; simp [List.getD_eq_getElem?_getD, h]
theorem chkR_s {rs : List Rd} {i : Nat} {l : Int} (h : i < rs.length) : chkR (rs.drop i) l = if ¬ rdP rs[i] then 3 else if rs[i].1 ≤ l then 1 else chkR (rs.drop (i + 1)) rs[i].1 := by
  rw [List.drop_eq_getElem_cons h, chkR]
def clkA (rate : Int) (rs : List Rd) : List D := [.int .i64 rate, .sl 3 rs.length (List.flatMap rdC rs)]
set_option maxRecDepth 100000 in
set_option maxHeartbeats 8000000 in
theorem fn_Check (G : Glob) (rate : Int) (rs : List Rd) : Fn G Try.prog 18 [.agg (clkA rate rs)] (.int .i64 (chkC rate rs)) := by
  unfold clkA
  refine Fn.mk (c := _) Try.func18 rfl rfl Try.ntmps18 Try.results18 ?_
  (simp -dsimp only [bodyW, List.length_cons, List.length_nil, Nat.zero_add, Nat.reduceLeDiff, wfL, ↓z_seq, ↓z_region, ↓z_ops_plain, ↓z_box, ↓evW_tmp, ↓z_lk_env, ↓reduceIte, ↓z_cl_agg, ↓z_nmC_cons, ↓z_mn'_int, ↓z_mn'_sl, ↓z_nmC_nil, and_self, ↓z_new, ↓z_nm_nil, Nat.reduceLT, ↓z_pg_env, ↓z_mn_agg, ↓z_pg_env0, ↓z_put, ↓z_assign, ↓evW_const, ↓constW_int, inR_i64, Int.reduceNeg, Int.reduceLE, ↓z_ops_nil, ↓z_seq_nrm, ↓z_block, ↓z_fieldAddr, ↓lkW_cons, Nat.reduceEqDiff, ↓y_fl24x0, ↓y_sz3, ne_eq, reduceCtorEq, not_false_eq_true, ↓z_fa_ptr, ↓z_load, ↓y_ty3, ↓z_agTy_int, ↓loadW_ptr, ↓lkoW_cons, ↓z_rd_f, ↓nthW_cons, ↓z_binOp, ↓z_bn_lss, ↓z_move, ↓z_ops_guard, ↓z_grd, ↓z_dst_s, ↓z_dst_0, ↓z_grdD_b, ↓z_gdf, ↓z_gnf, ↓z_gft, ↓z_pick, ↓z_pick_b, ↓z_gnt, ↓z_gff, ↓constW_bool, ↓z_cond, ↓z_cnd, ↓z_gtt, ↓z_ret, ↓z_blk_rt, ↓z_seq_rt, ↓z_end_rt, resLW, res1W, Bool.not_false, ↓z_coeL_cons, ↓z_coeL_nil, ↓z_pack1, ↓z_coe_int, D.int.injEq, true_and, ↓z_bn_gtr, ↓z_gdt, ↓y_fl24x1, ↓y_sz22, ↓y_ty22, ↓z_agTy_sl, Nat.reduceSub, ↓z_callb, ↓z_evL_cons, ↓z_evL_nil, ↓z_len, ↓z_ln_sl, ↓z_skip, ↓z_blk_nrm, ↓z_loop, z_ite])
  intro hd
  unfold chkC
  refine ⟨fun g => by rw [if_pos (.inl g)], fun g => ⟨fun g2 => by rw [if_pos (.inr g2)], fun g2 => ?_⟩⟩
  rw [if_neg (by omega)]
  refine ⟨fun g3 => by rw [if_pos (by omega)], fun g3 => ?_⟩
  rw [if_neg (by omega)]
  refine hold_intro ⟨[], Nat, fun i => ⟨47, 1, [(23, .int .i64 i), (22, .int .i64 rs.length), (21, .sl 3 rs.length (List.flatMap rdC rs)), (3, .int .i64 (lastI rs i))], []⟩, fun i => i ≤ rs.length ∧ chkR rs (-1) = chkR (rs.drop i) (lastI rs i), fun i => rs.length - i, ?_, ?_⟩
  · (simp -dsimp only [↓z_ad_nil, Int.reduceNeg, ↓z_wk, ↓z_wkE_cons, ↓lkW_cons, ↓reduceIte, D.int.injEq, true_and, Nat.reduceEqDiff, ↓z_wkE_nil, and_true, ↓z_wkO_nil]); (try simp only [Int.toNat_natCast, Nat.mul_one, Bool.or_false, Bool.false_or, Bool.or_self, Bool.or_true])
    exact ⟨0, ⟨by omega, rfl⟩, rfl, rfl⟩
  rintro i ⟨hi, he⟩
  by_cases h : i < rs.length
  · have hop := rd_at h
    have hl2 := rd_len rs
    rw [chkR_s h] at he
    have hla := lastI_s h
    (simp -dsimp only [↓z_seq, ↓z_region, ↓z_ops_plain, ↓z_binOp, ↓evW_tmp, ↓lkW_cons, ↓reduceIte, Nat.reduceEqDiff, ↓z_bn_lss, ↓z_put, Nat.reduceLT, ↓z_ops_nil, ↓z_seq_nrm, ↓z_cond, ↓z_cnd, ↓z_gdt, ↓z_skip, ↓z_block, ↓z_indexAddr, ↓y_ty22, ↓z_elTy_sl, ↓y_sz29, ↓z_ix_sl, ↓z_load, ↓y_ty29, ↓z_agTy_st, ↓loadW_rop, ↓z_rd_t, hl2, ↓z_alloc, ↓y_zr29, ↓z_new, ↓z_nm_nil, ↓z_pg_cons, ↓z_mn_agg, ↓z_mn_rop, ↓z_mn_bool, ↓z_mn_int, ↓z_mn_sl, ↓z_pg_nil, ↓z_store, ↓z_cl_agg, ↓z_store_ptr, ↓lkoW_cons, Nat.zero_add, List.length_cons, List.length_nil, Nat.reduceAdd, Nat.reduceLeDiff, ↓spsW_cons, ↓drW_cons, reduceCtorEq, Nat.reduceSub, ↓drW_nil, ↓z_cat_nil_r, ↓z_so_cons, ↓z_put_none, ↓z_fieldAddr, ↓y_fl29x0, ↓y_sz3, ne_eq, not_false_eq_true, ↓z_fa_ptr, ↓y_ty3, ↓z_agTy_int, ↓loadW_ptr, ↓z_rd_f, ↓z_buildSlice, ↓y_ty99, ↓z_slTy, Nat.mul_one, maxLen_lit, ↓y_zr3, ↓z_repL_s, ↓z_repL_0, ↓z_bld_cons, ↓z_bld_nil, ↓z_callv, ↓evW_func, ↓z_evL_cons, ↓z_evL_nil, ↓z_fun0, ↓z_coeL_cons, ↓z_coe_slx, ↓z_coeL_nil, true_and, z_sub, List.length_take, List.length_drop, ↓z_exit, ↓z_seq_ext, ↓z_lp_ext, ↓z_blk_ext, ↓z_assign, ↓evW_const, ↓constW_int, inR_i64, Int.reduceNeg, Int.reduceLE, and_self, ↓z_ret, ↓z_end_rt, resLW, res1W, ↓z_pack1, ↓z_coe_int, D.int.injEq, z_ite]); (try simp only [Int.toNat_natCast])
    refine ⟨fun _ => ⟨by omega, by omega, by omega, by omega, ?_⟩, fun h => by omega⟩
    rw [hop]
    (simp -dsimp only [↓nthW_cons, ↓reduceIte, ↓z_cl_int, List.length_cons, List.length_nil, Nat.zero_add, ↓z_allP_cons, ↓z_isP_int, ↓z_allP_nil, and_self, true_and]); (try simp only [Int.toNat_natCast, Nat.mul_one, Bool.or_false, Bool.false_or, Bool.or_self, Bool.or_true])
    refine call_fn (fn_instants1 G _) fun _ => ?_
    (simp -dsimp only [↓z_put, Nat.reduceLT, ↓z_ops_plain, ↓z_unOp, ↓evW_tmp, ↓lkW_cons, ↓reduceIte, ↓z_un_not, ↓z_move, ↓z_ops_guard, ↓z_grd, ↓z_dst_s, ↓z_dst_0, ↓z_grdD_b, ↓z_gnf, ↓z_gdt, ↓z_fieldAddr, Nat.reduceEqDiff, ↓y_fl29x1, ↓y_sz27, ne_eq, reduceCtorEq, not_false_eq_true, ↓z_fa_ptr, ↓z_gff, ↓z_load, ↓y_ty27, ↓z_agTy_st, ↓loadW_ptr, ↓lkoW_cons, ↓z_rd_t, Nat.zero_add, Nat.reduceAdd, List.length_cons, List.length_nil, Nat.reduceLeDiff, ↓z_sub_cs, ↓z_sub_c, ↓z_sub_nil, ↓z_callv, ↓evW_func, ↓z_evL_cons, ↓z_evL_nil, ↓z_fun0, ↓z_coeL_cons, ↓z_coe_oag, ↓z_coeC_cons, ↓z_coeS_int, ↓z_coeC_nil, ↓z_coeL_nil, true_and, ↓z_gft, ↓z_pick, ↓z_pick_b, ↓z_gnt, ↓evW_const, ↓constW_bool, ↓z_assign, ↓z_ops_nil, ↓z_seq_nrm, ↓z_cond, ↓z_cnd, ↓z_gtt, ↓z_seq, ↓z_region, ↓constW_int, inR_i64, Int.reduceNeg, Int.reduceLE, and_self, ↓z_ret, ↓z_blk_rt, ↓z_seq_rt, ↓z_lp_rt, ↓z_end_rt, resLW, res1W, Bool.not_false, ↓z_pack1, ↓z_coe_int, D.int.injEq, z_ite]); (try simp only [Int.toNat_natCast, Nat.mul_one, Bool.or_false, Bool.false_or, Bool.or_self, Bool.or_true])
    refine ⟨fun v1 => ?_, fun v1 => ?_⟩
    · refine call_fn (fn_valid G _ _) fun _ => ?_
      (simp -dsimp only [↓z_put, Nat.reduceLT, ↓z_ops_guard, ↓z_grd, ↓z_dst_s, ↓z_dst_0, ↓lkW_cons, Nat.reduceEqDiff, ↓reduceIte, ↓z_grdD_b, ↓z_gff, ↓z_unOp, ↓evW_tmp, ↓z_un_not, ↓z_ops_plain, ↓z_pick, ↓z_pick_b, ↓z_gft, ↓z_assign, ↓z_ops_nil, ↓z_seq_nrm, ↓z_cond, ↓z_cnd, ↓z_gnt, ↓z_gdf, ↓z_seq, ↓z_region, ↓z_fieldAddr, ↓y_fl29x0, ↓y_sz3, ne_eq, reduceCtorEq, not_false_eq_true, ↓z_fa_ptr, ↓z_load, ↓y_ty3, ↓z_agTy_int, ↓loadW_ptr, ↓lkoW_cons, ↓z_rd_f, ↓nthW_cons, Nat.zero_add, ↓z_move, ↓z_binOp, ↓z_bn_leq, ↓z_gdt, ↓evW_const, ↓constW_int, inR_i64, Int.reduceNeg, Int.reduceLE, and_self, ↓z_ret, ↓z_blk_rt, ↓z_seq_rt, ↓z_lp_rt, ↓z_end_rt, resLW, res1W, ↓z_coeL_cons, Nat.reduceAdd, ↓z_coeL_nil, ↓z_pack1, ↓z_coe_int, D.int.injEq, true_and, ↓z_skip, ↓z_blk_nrm, ↓z_bn_add, ↓wrW_i64, ↓z_lp_nrm, ↓z_wk, ↓z_wkE_cons, ↓z_wkE_nil, and_true, ↓z_wkO_nil, z_ite]); (try simp only [Int.toNat_natCast, Nat.mul_one, Bool.or_false, Bool.false_or, Bool.or_self, Bool.or_true])
      refine ⟨fun v2 => ⟨fun v3 => ?_, fun v3 => ?_⟩, fun v2 => ?_⟩
      · rw [if_neg (by simp [rdP, v1, v2]), if_pos v3] at he; exact he.symm
      · rw [if_neg (by simp [rdP, v1, v2]), if_neg v3] at he
        exact ⟨by omega, i + 1, ⟨by omega, by rw [hla]; exact he⟩, by omega, by omega, hla.symm⟩
      · rw [if_pos (fun hh => v2 hh.2)] at he; exact he.symm
    · rw [if_pos (fun hh => v1 hh.1)] at he; exact he.symm
  · (simp -dsimp only [↓z_seq, ↓z_region, ↓z_ops_plain, ↓z_binOp, ↓evW_tmp, ↓lkW_cons, ↓reduceIte, Nat.reduceEqDiff, ↓z_bn_lss, ↓z_put, Nat.reduceLT, ↓z_ops_nil, ↓z_seq_nrm, ↓z_cond, ↓z_cnd, ↓z_gdt, ↓z_skip, ↓z_block, ↓z_indexAddr, ↓y_ty22, ↓z_elTy_sl, ↓y_sz29, ↓z_ix_sl, ↓z_load, ↓y_ty29, ↓z_agTy_st, ↓loadW_rop, ↓z_rd_t, ↓z_alloc, ↓y_zr29, ↓z_new, ↓z_nm_nil, ↓z_pg_cons, ↓z_mn_agg, ↓z_mn_rop, ↓z_mn_bool, ↓z_mn_int, ↓z_mn_sl, ↓z_pg_nil, ↓z_store, ↓z_cl_agg, ↓z_store_ptr, ↓lkoW_cons, Nat.zero_add, List.length_cons, List.length_nil, Nat.reduceAdd, Nat.reduceLeDiff, ↓spsW_cons, ↓drW_cons, reduceCtorEq, Nat.reduceSub, ↓drW_nil, ↓z_cat_nil_r, ↓z_so_cons, ↓z_put_none, ↓z_fieldAddr, ↓y_fl29x0, ↓y_sz3, ne_eq, not_false_eq_true, ↓z_fa_ptr, ↓y_ty3, ↓z_agTy_int, ↓loadW_ptr, ↓z_rd_f, ↓z_buildSlice, ↓y_ty99, ↓z_slTy, Nat.mul_one, maxLen_lit, ↓y_zr3, ↓z_repL_s, ↓z_repL_0, ↓z_bld_cons, ↓z_bld_nil, ↓z_callv, ↓evW_func, ↓z_evL_cons, ↓z_evL_nil, ↓z_fun0, ↓z_coeL_cons, ↓z_coe_slx, ↓z_coeL_nil, true_and, z_sub, List.length_take, List.length_drop, ↓z_exit, ↓z_seq_ext, ↓z_lp_ext, ↓z_blk_ext, ↓z_assign, ↓evW_const, ↓constW_int, inR_i64, Int.reduceNeg, Int.reduceLE, and_self, ↓z_ret, ↓z_end_rt, resLW, res1W, ↓z_pack1, ↓z_coe_int, D.int.injEq, z_ite]); (try simp only [Int.toNat_natCast])
    refine ⟨fun h => by omega, fun _ => ?_⟩
    rw [he, List.drop_eq_nil_of_le (by omega)]; rfl
set_option maxRecDepth 100000 in
set_option maxHeartbeats 8000000 in
theorem fn_refCheck (G : Glob) (rate : Int) (rs : List Rd) : Fn G Try.prog 19 [.agg (clkA rate rs)] (.int .i64 (chkC rate rs)) := by
  unfold clkA
  refine Fn.mk (c := _) Try.func19 rfl rfl Try.ntmps19 Try.results19 ?_
  (simp -dsimp only [bodyW, List.length_cons, List.length_nil, Nat.zero_add, Nat.reduceLeDiff, wfL, ↓z_seq, ↓z_region, ↓z_ops_plain, ↓z_box, ↓evW_tmp, ↓z_lk_env, ↓reduceIte, ↓z_cl_agg, ↓z_nmC_cons, ↓z_mn'_int, ↓z_mn'_sl, ↓z_nmC_nil, and_self, ↓z_new, ↓z_nm_nil, Nat.reduceLT, ↓z_pg_env, ↓z_mn_agg, ↓z_pg_env0, ↓z_put, ↓z_assign, ↓evW_const, ↓constW_int, inR_i64, Int.reduceNeg, Int.reduceLE, ↓z_ops_nil, ↓z_seq_nrm, ↓z_fieldAddr, ↓lkW_cons, Nat.reduceEqDiff, ↓y_fl24x0, ↓y_sz3, ne_eq, reduceCtorEq, not_false_eq_true, ↓z_fa_ptr, ↓z_load, ↓y_ty3, ↓z_agTy_int, ↓loadW_ptr, ↓lkoW_cons, ↓z_rd_f, ↓nthW_cons, ↓z_binOp, ↓z_bn_lss, ↓z_move, ↓z_ops_guard, ↓z_grd, ↓z_dst_s, ↓z_dst_0, ↓z_grdD_b, ↓z_gdf, ↓z_gnf, ↓z_gft, ↓z_pick, ↓z_pick_b, ↓z_gnt, ↓z_gff, ↓constW_bool, ↓z_cond, ↓z_cnd, ↓z_gtt, ↓z_ret, ↓z_seq_rt, ↓z_end_rt, resLW, res1W, Bool.not_false, ↓z_coeL_cons, ↓z_coeL_nil, ↓z_pack1, ↓z_coe_int, D.int.injEq, true_and, ↓z_bn_gtr, ↓z_gdt, ↓z_skip, ↓y_fl24x1, ↓y_sz22, ↓y_ty22, ↓z_agTy_sl, Nat.reduceSub, ↓z_callb, ↓z_evL_cons, ↓z_evL_nil, ↓z_len, ↓z_ln_sl, ↓z_block, ↓z_loop, z_ite])
  intro hd
  unfold chkC
  refine ⟨fun g => by rw [if_pos (.inl g)], fun g => ⟨fun g2 => by rw [if_pos (.inr g2)], fun g2 => ?_⟩⟩
  rw [if_neg (by omega)]
  refine ⟨fun g3 => by rw [if_pos (by omega)], fun g3 => ?_⟩
  rw [if_neg (by omega)]
  refine hold_intro ⟨[], Nat, fun i => ⟨50, 1, [(3, .int .i64 i), (1, .ptr 0 0)], [(0, clkA rate rs)]⟩, fun i => i ≤ rs.length ∧ chkR rs (-1) = chkR (rs.drop i) (lastI rs i), fun i => rs.length - i, ?_, ?_⟩
  · unfold clkA; (simp -dsimp only [↓z_ad_nil, Int.reduceNeg, ↓z_wk, ↓z_wkE_cons, ↓lkW_cons, ↓reduceIte, D.int.injEq, true_and, Nat.reduceEqDiff, ↓z_wkE_nil, and_self, and_true, ↓z_wkO_cons, ↓lkoW_cons, ↓z_wkO_nil]); (try simp only [Int.toNat_natCast, Nat.mul_one, Bool.or_false, Bool.false_or, Bool.or_self, Bool.or_true])
    exact ⟨0, ⟨by omega, rfl⟩, rfl⟩
  rintro i ⟨hi, he⟩
  unfold clkA
  by_cases h : i < rs.length
  · have hop := rd_at h
    have hl2 := rd_len rs
    rw [chkR_s h] at he
    have hla := lastI_s h
    (simp -dsimp only [↓z_seq, ↓z_region, ↓z_ops_plain, ↓z_move, ↓evW_tmp, ↓lkW_cons, ↓reduceIte, ↓z_put, Nat.reduceLT, ↓z_fieldAddr, Nat.reduceEqDiff, ↓y_fl24x1, ↓y_sz22, ne_eq, reduceCtorEq, not_false_eq_true, ↓z_fa_ptr, ↓z_load, ↓y_ty22, ↓z_agTy_sl, ↓loadW_ptr, ↓lkoW_cons, ↓z_rd_f, ↓nthW_cons, Nat.zero_add, Nat.reduceSub, ↓z_callb, ↓z_evL_cons, ↓z_evL_nil, ↓z_len, ↓z_ln_sl, ↓z_binOp, ↓z_bn_lss, ↓z_ops_nil, ↓z_seq_nrm, ↓z_cond, ↓z_cnd, ↓z_gdt, ↓z_skip, ↓z_block, ↓z_indexAddr, ↓z_elTy_sl, ↓y_sz29, ↓z_ix_sl, ↓y_ty29, ↓z_agTy_st, ↓loadW_rop, ↓z_rd_t, hl2, ↓z_callv, ↓evW_func, ↓z_fun0, ↓z_coeL_cons, ↓z_coe_agg, ↓z_coeL_nil, true_and, z_sub, ↓z_exit, ↓z_seq_ext, ↓z_lp_ext, ↓z_blk_ext, ↓z_assign, ↓evW_const, ↓constW_int, inR_i64, Int.reduceNeg, Int.reduceLE, and_self, ↓z_ret, ↓z_end_rt, resLW, res1W, ↓z_pack1, ↓z_coe_int, D.int.injEq, z_ite]); (try simp only [Int.toNat_natCast])
    refine ⟨fun _ => ⟨by omega, by omega, by omega, ?_⟩, fun h => by omega⟩
    rw [hop]
    refine call_fn (fn_read G _ _ _) fun _ => ?_
    (simp -dsimp only [↓z_put, Nat.reduceLT, ↓z_ops_plain, ↓z_assign, ↓evW_tmp, ↓lkW_cons, ↓reduceIte, ↓z_ops_nil, ↓z_seq_nrm, ↓z_seq, ↓z_region, ↓z_move, ↓z_unOp, ↓z_un_not, ↓z_cond, ↓z_cnd, ↓z_gnt, ↓z_gdf, ↓z_skip, ↓z_region_d, ↓y_mix, true_and, ↓evW_const, ↓constW_int, inR_i64, Int.reduceNeg, Int.reduceLE, and_self, ↓z_ret, ↓z_seq_rt, ↓z_blk_rt, ↓z_lp_rt, ↓z_end_rt, resLW, res1W, Nat.zero_add, ↓z_coeL_cons, ↓z_coeL_nil, ↓z_pack1, ↓z_coe_int, D.int.injEq, z_ite]); (try simp only [Int.toNat_natCast, Nat.mul_one, Bool.or_false, Bool.false_or, Bool.or_self, Bool.or_true])
    refine ⟨fun v1 => ?_, fun v1 => by rw [if_pos v1] at he; exact he.symm⟩
    rw [if_neg (fun hh => hh v1)] at he
    refine rgn_q (by decide +kernel) rfl ?_
    (simp -dsimp only [↓z_ops_plain, ↓z_move, ↓evW_tmp, ↓lkW_cons, Nat.reduceEqDiff, ↓reduceIte, ↓z_put, Nat.reduceLT, ↓z_binOp, ↓evW_const, ↓constW_int, inR_i64, Int.reduceNeg, Int.reduceLE, and_self, ↓z_bn_gtr, ↓z_ops_guard, ↓z_grd, ↓z_dst_s, ↓z_dst_0, ↓z_grdD_b, ↓z_gdt, ↓z_fieldAddr, ↓y_fl24x1, ↓y_sz22, ne_eq, reduceCtorEq, not_false_eq_true, ↓z_fa_ptr, ↓z_gtt, ↓z_load, ↓y_ty22, ↓z_agTy_sl, ↓loadW_ptr, ↓lkoW_cons, ↓z_rd_f, ↓nthW_cons, Nat.zero_add, Nat.reduceSub, ↓z_indexAddr, ↓z_elTy_sl, ↓y_sz29, ↓z_ix_sl, ↓y_fl29x0, ↓y_sz3, ↓z_fa_rop, ↓y_ty3, ↓z_agTy_int, ↓loadW_rop, ↓z_bn_sub, ↓wrW_i64, ↓z_pick, ↓z_pick_b, ↓z_ops_nil, ↓z_seq_nrm, ↓z_cond, ↓z_seq, ↓z_region, ↓z_assign, ↓z_ret, ↓z_blk_rt, ↓z_seq_rt, ↓z_lp_rt, ↓z_end_rt, resLW, res1W, ↓z_coeL_cons, ↓z_coeL_nil, ↓z_pack1, ↓z_coe_int, D.int.injEq, true_and, ↓z_skip, ↓z_blk_nrm, ↓z_bn_add, ↓z_lp_nrm, ↓z_wk, ↓z_wkE_cons, ↓z_wkE_nil, and_true, ↓z_wkO_cons, ↓z_wkO_nil, nth_rd0, ↓z_bn_leq, ↓z_cnd, z_ite, ↓z_gnt, ↓z_gtf, ↓constW_bool, ↓z_gft]); (try simp only [Int.toNat_natCast])
    have fin : ¬ rs[i].1 ≤ lastI rs i → (-9223372036854775808 ≤ (i : Int) + 1 ∧ (i : Int) + 1 ≤ 9223372036854775807) ∧ ∃ y : Nat, (y ≤ rs.length ∧ chkR rs (-1) = chkR (rs.drop y) (lastI rs y)) ∧ rs.length - y < rs.length - i ∧ (i : Int) + 1 = y := by
      intro v3
      rw [if_neg v3] at he
      exact ⟨by omega, i + 1, ⟨by omega, by rw [hla]; exact he⟩, by omega, by omega⟩
    refine ⟨fun v2 => ⟨by omega, by omega, by omega, ⟨by omega, by omega⟩, by omega, by omega, by omega, ?_⟩, fun v2 => fin ?_⟩
    · have el : rs[((i : Int) - 1).toNat]'(by omega) = rs[i - 1]'(by omega) := by congr 1; omega
      have e2 : lastI rs i = (rs[((i : Int) - 1).toNat]'(by omega)).1 := by
        rw [el]
        unfold lastI
        rw [if_neg (by omega)]
        simp [List.getD_eq_getElem?_getD, show i - 1 < rs.length by omega]
      rw [← e2]
      exact ⟨fun v3 => by rw [if_pos v3] at he; exact he.symm, fun v3 => fin v3⟩
    · have : i = 0 := by omega
      subst this
      have := v1.1.1
      unfold lastI; rw [if_pos rfl]; omega
  · (simp -dsimp only [↓z_seq, ↓z_region, ↓z_ops_plain, ↓z_move, ↓evW_tmp, ↓lkW_cons, ↓reduceIte, ↓z_put, Nat.reduceLT, ↓z_fieldAddr, Nat.reduceEqDiff, ↓y_fl24x1, ↓y_sz22, ne_eq, reduceCtorEq, not_false_eq_true, ↓z_fa_ptr, ↓z_load, ↓y_ty22, ↓z_agTy_sl, ↓loadW_ptr, ↓lkoW_cons, ↓z_rd_f, ↓nthW_cons, Nat.zero_add, Nat.reduceSub, ↓z_callb, ↓z_evL_cons, ↓z_evL_nil, ↓z_len, ↓z_ln_sl, ↓z_binOp, ↓z_bn_lss, ↓z_ops_nil, ↓z_seq_nrm, ↓z_cond, ↓z_cnd, ↓z_gdt, ↓z_skip, ↓z_block, ↓z_indexAddr, ↓z_elTy_sl, ↓y_sz29, ↓z_ix_sl, ↓y_ty29, ↓z_agTy_st, ↓loadW_rop, ↓z_rd_t, ↓z_callv, ↓evW_func, ↓z_fun0, ↓z_coeL_cons, ↓z_coe_agg, ↓z_coeL_nil, true_and, z_sub, ↓z_exit, ↓z_seq_ext, ↓z_lp_ext, ↓z_blk_ext, ↓z_assign, ↓evW_const, ↓constW_int, inR_i64, Int.reduceNeg, Int.reduceLE, and_self, ↓z_ret, ↓z_end_rt, resLW, res1W, ↓z_pack1, ↓z_coe_int, D.int.injEq, z_ite]); (try simp only [Int.toNat_natCast])
    refine ⟨fun h => by omega, fun _ => ?_⟩
    rw [he, List.drop_eq_nil_of_le (by omega)]; rfl
end Go.Abs

