/-
  DOM, sixth walks: how many parts every domain holds.
-/
import Derived.Test.YtffcdocmabefiaaD5
namespace Go.Abs
open Go.Proofs
theorem size_0 {d : List Int} {r : List (Int × Bool)} {h : List Int} {o lv : Int} : 0 ≤ sizeD d r h o lv ∧ sizeD d r h o lv ≤ 64 := by
  unfold sizeD
  split
  · omega
  · rename_i g
    have := chk_ok (d := d) (r := r) (h := h) (o := o) (by omega)
    split
    · omega
    · split
      · omega
      · split
        · omega
        · omega
theorem of_lt {d : List Int} {r : List (Int × Bool)} {h : List Int} {o lv k : Int} : ofD d r h o lv k < sizeD d r h o lv ∨ ofD d r h o lv k = -1 := by
  unfold ofD
  split
  · exact .inr rfl
  · rename_i g
    obtain ⟨c1, c2, c3, c4, c5, c6, c7, c8⟩ := chk_ok (d := d) (r := r) (h := h) (o := o) (by omega)
    refine .inl ?_
    have e1 : d.getD k.toNat 0 = d[k.toNat]'(by omega) := getD_at _
    have m1 := c6 _ (List.getElem_mem (show k.toNat < d.length by omega))
    have e2 : r.getD (d[k.toNat]'(by omega)).toNat (0, false) = r[(d[k.toNat]'(by omega)).toNat]'(by omega) := getD_at _
    have m2 := c7 _ (List.getElem_mem (show (d[k.toNat]'(by omega)).toNat < r.length by omega))
    have e3 : h.getD (r[(d[k.toNat]'(by omega)).toNat]'(by omega)).1.toNat 0 = h[(r[(d[k.toNat]'(by omega)).toNat]'(by omega)).1.toNat]'(by omega) := getD_at _
    have m3 := c8 _ (List.getElem_mem (show (r[(d[k.toNat]'(by omega)).toNat]'(by omega)).1.toNat < h.length by omega))
    unfold upD sizeD
    rw [if_neg (show ¬ (chk d r h o ≠ 0 ∨ lv < 0 ∨ 3 < lv) by omega), e1, e2, e3]
    by_cases q0 : lv = 0
    · rw [if_pos q0, if_pos q0]; omega
    · rw [if_neg q0, if_neg q0]
      by_cases q1 : lv = 1
      · rw [if_pos q1, if_pos q1]; omega
      · rw [if_neg q1, if_neg q1]
        by_cases q2 : lv = 2
        · rw [if_pos q2, if_pos q2]; omega
        · rw [if_neg q2, if_neg q2]; omega
def holdN (d : List Int) (r : List (Int × Bool)) (h : List Int) (o lv : Int) (lay : List Int) (i x : Nat) : Nat := (lay.take i).countP fun k => decide (ofD d r h o lv k = (x : Int))
def holdL (d : List Int) (r : List (Int × Bool)) (h : List Int) (o lv : Int) (lay : List Int) (i : Nat) : List Int := (List.range (sizeD d r h o lv).toNat).map fun x => (holdN d r h o lv lay i x : Int)
def holdZ (d : List Int) (r : List (Int × Bool)) (h : List Int) (o lv : Int) (lay : List Int) : List Int := holdL d r h o lv lay (if 24 < lay.length then 0 else lay.length)
theorem holdL_len {d : List Int} {r : List (Int × Bool)} {h : List Int} {o lv : Int} {lay : List Int} {i : Nat} : (holdL d r h o lv lay i).length = (sizeD d r h o lv).toNat := by simp [holdL]
theorem holdN_s {d : List Int} {r : List (Int × Bool)} {h : List Int} {o lv : Int} {lay : List Int} {i x : Nat} (hi : i < lay.length) : holdN d r h o lv lay (i + 1) x = holdN d r h o lv lay i x + if ofD d r h o lv lay[i] = x then 1 else 0 := by
  unfold holdN
  rw [takeS hi, List.countP_append]
  simp [List.countP_cons]
theorem holdN_le {d : List Int} {r : List (Int × Bool)} {h : List Int} {o lv : Int} {lay : List Int} {i x : Nat} : holdN d r h o lv lay i x ≤ i := by
  unfold holdN
  exact Nat.le_trans List.countP_le_length (by rw [List.length_take]; omega)
theorem holdL_0 {d : List Int} {r : List (Int × Bool)} {h : List Int} {o lv : Int} {lay : List Int} : List.replicate (sizeD d r h o lv).toNat (D.int .i64 0) = (holdL d r h o lv lay 0).map (D.int .i64) := by
  apply List.ext_getElem
  · simp [holdL]
  · intro k h1 h2; simp [holdL, holdN]
theorem holdL_s {d : List Int} {r : List (Int × Bool)} {h : List Int} {o lv : Int} {lay : List Int} {i : Nat} (hi : i < lay.length) (h0 : 0 ≤ ofD d r h o lv lay[i]) :
    ((holdL d r h o lv lay i).set (ofD d r h o lv lay[i]).toNat ((holdN d r h o lv lay i (ofD d r h o lv lay[i]).toNat : Int) + 1)) = holdL d r h o lv lay (i + 1) := by
  apply List.ext_getElem
  · simp [holdL]
  · intro k h1 h2
    rw [List.getElem_set]
    simp only [holdL, List.getElem_map, List.getElem_range, holdN_s hi]
    split
    · rename_i e; subst e; rw [if_pos (by omega)]; simp
    · rw [if_neg (by omega)]; simp
theorem holdL_n {d : List Int} {r : List (Int × Bool)} {h : List Int} {o lv : Int} {lay : List Int} {i : Nat} (hi : i < lay.length) (h0 : ¬ 0 ≤ ofD d r h o lv lay[i]) : holdL d r h o lv lay (i + 1) = holdL d r h o lv lay i := by
  unfold holdL
  refine List.map_congr_left fun x _ => ?_
  rw [holdN_s hi, if_neg (by omega)]; rfl
set_option maxRecDepth 100000 in
set_option maxHeartbeats 8000000 in
theorem fn_Holds (G : Glob) (d : List Int) (r : List (Int × Bool)) (h : List Int) (o lv : Int) (lay : List Int) : FnF G Try.prog 21 [.agg (domA d r h o), .int .i64 lv, .sl 1 lay.length (lay.map (D.int .i64))] (.sl 1 (holdZ d r h o lv lay).length ((holdZ d r h o lv lay).map (D.int .i64))) := by
  have hs := size_0 (d := d) (r := r) (h := h) (o := o) (lv := lv)
  have hol : ∀ i, (holdL d r h o lv lay i).length = (sizeD d r h o lv).toNat := fun i => holdL_len
  unfold domA
  refine FnF.mk (c := _) Try.func21 rfl rfl Try.ntmps21 Try.results21 ?_
  (simp -dsimp only [bodyW, List.length_cons, List.length_nil, Nat.zero_add, Nat.reduceAdd, Nat.reduceLeDiff, wfL, ↓z_seq, ↓z_region, ↓z_ops_plain, ↓z_box, ↓evW_tmp, ↓z_lk_env, ↓reduceIte, ↓z_cl_agg, ↓z_nmC_cons, ↓z_mn'_sl, ↓z_mn'_int, ↓z_nmC_nil, and_self, ↓z_new, ↓z_nm_nil, Nat.reduceLT, ↓z_pg_env, ↓z_mn_agg, ↓z_mn_int, ↓z_mn_sl, ↓z_pg_env0, ↓z_put, ↓z_assign, ↓evW_const, ↓constW_nils, ↓z_ops_nil, ↓z_seq_nrm, ↓z_load, ↓lkW_cons, Nat.reduceEqDiff, ↓y_ty25, ↓y_sz25, ↓z_agTy_st, ↓loadW_ptr, ↓lkoW_cons, ↓z_rd_t, ↓z_sub_c, ↓z_sub_nil, ↓z_move, reduceCtorEq, ↓z_callv, ↓evW_func, ↓z_evL_cons, ↓z_evL_nil, ↓z_fun0, ↓z_coeL_cons, ↓z_coe_oag, ↓z_coeC_cons, ↓z_coeS_sl, ↓z_coeS_int, ↓z_coeC_nil, ↓z_coe_int, ↓z_coeL_nil, true_and])
  intro hd _ hl
  refine call_fn (fn_Size G d r h o lv) fun _ => ?_
  (simp -dsimp only [↓z_put, Nat.reduceLT, ↓z_ops_plain, ↓z_makeSlice, ↓evW_tmp, ↓lkW_cons, ↓reduceIte, ↓z_mk, ↓y_ty22, ↓z_slTy, ↓y_sz3, ↓y_by3, ↓z_room, maxLen_lit, ↓y_zr3, List.length_cons, List.length_nil, Nat.zero_add, ↓repW_one, ↓z_new, ↓z_nm_cons, ↓z_nmC_cons, ↓z_mn'_sl, ↓z_mn'_int, ↓z_nmC_nil, and_self, ↓z_nm_nil, ↓z_pg_cons, ↓z_mn_int, ↓z_mn_oag, ↓z_mnL_sl, ↓z_mnL_int, ↓z_mnL_nil, ↓z_mn_nils, ↓z_mn_ptr, reduceCtorEq, ↓z_mn_agg, ↓z_mn_sl, ↓z_pg_nil, ↓z_assign, ↓z_ops_nil, ↓z_seq_nrm, ↓z_seq, ↓z_region, ↓z_move, Nat.reduceEqDiff, Nat.reduceAdd, ↓z_callb, ↓z_evL_cons, ↓z_evL_nil, ↓z_len, ↓z_ln_sl, ↓z_binOp, ↓evW_const, ↓constW_int, inR_i64, Int.reduceNeg, Int.reduceLE, ↓z_bn_gtr, ↓z_cond, ↓z_cnd, ↓z_gdt, ↓z_ret, ↓z_seq_rt, ↓z_end_rt, resLW, res1W, ↓z_frL_cons, ↓z_frL_nil, and_true, ↓z_coeL_cons, ↓z_coeL_nil, ↓z_pack1, ↓z_fr_osl, ↓lkoW_cons, ↓z_coe_osl, Nat.mul_one, D.sl.injEq, true_and, ↓z_skip, ↓z_block, ↓z_loop, z_ite])
  refine ⟨hs.1, by omega, by omega, fun g => ?_, fun g => ?_⟩
  · unfold holdZ
    rw [if_pos (by omega), holdL_0 (lay := lay)]
    (simp -dsimp only [↓z_frC_ints, ↓z_allP_int, List.length_map, hol, and_self]); (try simp only [Int.toNat_natCast, Nat.mul_one, Bool.or_false, Bool.false_or, Bool.or_self, Bool.or_true])
  unfold holdZ
  rw [if_neg (by omega)]
  refine hold_intro ⟨[], Nat, fun i => ⟨39, 2, [(21, .int .i64 i), (20, .int .i64 lay.length), (19, .sl 1 lay.length (lay.map (D.int .i64))), (7, .osl 1 1 (sizeD d r h o lv).toNat), (3, .ptr 0 0), (1, .int .i64 lv)], [(1, (holdL d r h o lv lay i).map (D.int .i64)), (0, domA d r h o)]⟩, fun i => i ≤ lay.length, fun i => lay.length - i, ?_, ?_⟩
  · unfold domA; (simp -dsimp only [↓z_ad_nil, ↓z_wk, ↓z_wkE_cons, ↓lkW_cons, ↓reduceIte, D.int.injEq, true_and, Nat.reduceEqDiff, Nat.zero_add, reduceCtorEq, ↓z_wkE_nil, and_self, and_true, ↓z_wkO_cons, ↓lkoW_cons, ↓z_wkO_nil]); (try simp only [Int.toNat_natCast, Nat.mul_one, Bool.or_false, Bool.false_or, Bool.or_self, Bool.or_true])
    exact ⟨0, by simp, by simp, holdL_0⟩
  rintro i hi
  unfold domA
  (simp -dsimp only [↓z_seq, ↓z_region, ↓z_ops_plain, ↓z_binOp, ↓evW_tmp, ↓lkW_cons, ↓reduceIte, Nat.reduceEqDiff, ↓z_bn_lss, ↓z_put, Nat.reduceLT, ↓z_ops_nil, ↓z_seq_nrm, ↓z_cond, ↓z_cnd, ↓z_gdt, ↓z_skip, ↓z_block, ↓z_indexAddr, ↓y_ty22, ↓z_elTy_sl, ↓y_sz3, ↓z_ix_sl, ↓z_load, ↓y_ty3, ↓z_agTy_int, ↓loadW_rop, ↓z_rd_f, ↓z_nth_int, ↓z_assign, ↓y_ty25, ↓y_sz25, ↓z_agTy_st, ↓loadW_ptr, ↓lkoW_cons, reduceCtorEq, ↓z_rd_t, Nat.zero_add, List.length_cons, List.length_nil, Nat.reduceAdd, Nat.reduceLeDiff, ↓z_sub_c, ↓z_sub_nil, ↓z_move, ↓z_callv, ↓evW_func, ↓z_evL_cons, ↓z_evL_nil, ↓z_fun0, ↓z_coeL_cons, ↓z_coe_oag, ↓z_coeC_cons, ↓z_coeS_sl, ↓z_coeS_int, ↓z_coeC_nil, ↓z_coe_int, ↓z_coeL_nil, true_and, Nat.mul_one, ↓z_exit, ↓z_seq_ext, ↓z_lp_ext, ↓z_blk_ext, ↓z_ret, ↓z_end_rt, resLW, res1W, ↓z_frL_cons, ↓z_frL_nil, and_true, ↓z_pack1, ↓z_fr_osl, ↓z_frC_ints, ↓z_coe_osl, ↓z_allP_int, List.length_map, D.sl.injEq, z_ite]); (try simp only [Int.toNat_natCast])
  refine ⟨fun hlt => ⟨by omega, by omega, by omega, ?_⟩, fun hge => ?_⟩
  · refine call_fn (fn_Of G d r h o lv _) fun _ => ?_
    (simp -dsimp only [↓z_put, Nat.reduceLT, ↓z_ops_plain, ↓z_assign, ↓evW_tmp, ↓lkW_cons, ↓reduceIte, ↓z_ops_nil, ↓z_seq_nrm, ↓z_seq, ↓z_region, ↓z_move, ↓z_binOp, ↓evW_const, ↓constW_int, inR_i64, Int.reduceNeg, Int.reduceLE, and_self, ↓z_bn_geq, ↓z_cond, ↓z_cnd, ↓z_gdt, Nat.mul_one, Nat.reduceEqDiff, ↓z_indexAddr, ↓y_ty22, ↓z_elTy_sl, ↓y_sz3, ↓z_ix_osl, ↓z_load, ↓y_ty3, ↓z_agTy_int, ↓loadW_ptr, ↓lkoW_cons, ↓z_rd_f, ↓z_nth_int, ↓z_bn_add, ↓wrW_i64, ↓z_store, ↓z_cl_int, List.length_cons, List.length_nil, Nat.zero_add, ↓z_store_ptr, List.length_map, hol, ↓z_sps_int, ↓z_so_cons, ↓z_put_none, ↓z_blk_nrm, ↓z_lp_nrm, ↓z_wk, ↓z_wkE_cons, D.int.injEq, true_and, ↓z_wkE_nil, and_true, ↓z_wkO_cons, reduceCtorEq, ↓z_wkO_nil, ↓z_skip, z_ite]); (try simp only [Int.toNat_natCast, Nat.mul_one, Bool.or_false, Bool.false_or, Bool.or_self, Bool.or_true])
    have hlt' : i < lay.length := by omega
    have ho := of_lt (d := d) (r := r) (h := h) (o := o) (lv := lv) (k := lay[i])
    refine ⟨fun g2 => ?_, fun g2 => ?_⟩
    · have hj : (ofD d r h o lv lay[i]).toNat < (holdL d r h o lv lay i).length := by rw [hol]; omega
      have hv : (holdL d r h o lv lay i)[(ofD d r h o lv lay[i]).toNat]'hj = (holdN d r h o lv lay i (ofD d r h o lv lay[i]).toNat : Int) := by simp [holdL]
      have hn := holdN_le (d := d) (r := r) (h := h) (o := o) (lv := lv) (lay := lay) (i := i) (x := (ofD d r h o lv lay[i]).toNat)
      have hset := List.set_eq_take_append_cons_drop (l := holdL d r h o lv lay i) (i := (ofD d r h o lv lay[i]).toNat) (a := (holdN d r h o lv lay i (ofD d r h o lv lay[i]).toNat : Int) + 1)
      rw [if_pos hj, holdL_s hlt' g2] at hset
      refine ⟨by omega, by omega, by omega, by rw [hv]; omega, by omega, by omega, by omega, by omega, i + 1, by omega, by omega, by omega, ?_⟩
      rw [hset, hv]; simp
    · exact ⟨by omega, i + 1, by omega, by omega, by omega, by rw [holdL_n hlt' g2]⟩
  · have : i = lay.length := by omega
    subst this
    exact ⟨hol _, (hol _).symm, rfl⟩
end Go.Abs

