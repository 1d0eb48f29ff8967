/-
  BILL, fourth walks: statements.
-/
import Derived.Test.YtccipobbdohdpaaDoorB4
namespace Go.Abs
open Go.Proofs
def slI (l : List Int) : D := .sl 1 l.length (l.map (D.int .i64))
def slQ (l : List Int) : D := if l = [] then .nils else .sl 1 l.length (l.map (D.int .i64))
theorem slQ_w (l : List Int) : DW (slQ l) (slI l) := by
  unfold slQ slI
  split
  · rename_i e; subst e; exact .nils 1
  · exact .refl _
def stO (acc : Int) (ps : List Po) (x f t : Int) : Int := if spE acc ps x f t = 0 then balT x (f - 1) ps else 0
def stC (acc : Int) (ps : List Po) (x f t : Int) : Int := if spE acc ps x f t = 0 then balT x (t - 1) ps else 0
def stL (acc : Int) (ps : List Po) (x f t : Int) : List Int := if spE acc ps x f t = 0 then lnZ x f t ps else []
/-- The lines when i postings of the account have come. -/
def lnP (x f t : Int) (ps : List Po) (i : Nat) : List Int := (((ofP x t ps).take i).filter fun y => decide (f ≤ y.2.t)).map fun y => (y.1 : Int)
theorem lnP_s {x f t : Int} {ps : List Po} {i : Nat} (h : i < (ofP x t ps).length) : lnP x f t ps (i + 1) = lnP x f t ps i ++ if f ≤ (ofP x t ps)[i].2.t then [((ofP x t ps)[i].1 : Int)] else [] := by
  unfold lnP
  rw [show (ofP x t ps).take (i + 1) = (ofP x t ps).take i ++ [(ofP x t ps)[i]] by simp, List.filter_append, List.map_append]
  congr 1
  split
  · rename_i g; rw [List.filter_cons_of_pos (by simpa using g)]; rfl
  · rename_i g; rw [List.filter_cons_of_neg (by simpa using g)]; rfl
theorem lnP_end {x f t : Int} {ps : List Po} (h : ps.Pairwise (·.t ≤ ·.t)) : lnP x f t ps (ofP x t ps).length = lnZ x f t ps := by
  unfold lnP; rw [List.take_length, ln_eq h]
theorem lnP_le {x f t : Int} {ps : List Po} (i : Nat) : (lnP x f t ps i).length ≤ ps.length := by
  unfold lnP
  rw [List.length_map]
  exact Nat.le_trans (List.length_filter_le _ _) (Nat.le_trans (List.length_take_le' _ _) ofP_le)
def stS (o c acc f : Int) (ps : List Po) : List Int → St
  | [] => ⟨52, 4, [], [(1000001, [.ptr 0 0, .ptr 1 0, .ptr 2 0, .ptr 3 0]), (3, [.int .i64 o, .nils, .int .i64 c]), (2, [.int .i64 0, .nils, .int .i64 0]), (1, [.int .i64 f]), (0, [.int .i64 acc, .sl 6 ps.length (List.flatMap poC ps)])]⟩
  | a :: r => ⟨52, 5, [], [(1000001, [.ptr 0 0, .ptr 1 0, .ptr 2 0, .ptr 3 0]), (4, (a :: r).map (D.int .i64)), (3, [.int .i64 o, .osl 4 1 (a :: r).length, .int .i64 c]), (2, [.int .i64 0, .nils, .int .i64 0]), (1, [.int .i64 f]), (0, [.int .i64 acc, .sl 6 ps.length (List.flatMap poC ps)])]⟩
theorem stS_0 (o c acc f : Int) (ps : List Po) : stS o c acc f ps [] = ⟨52, 4, [], [(1000001, [.ptr 0 0, .ptr 1 0, .ptr 2 0, .ptr 3 0]), (3, [.int .i64 o, .nils, .int .i64 c]), (2, [.int .i64 0, .nils, .int .i64 0]), (1, [.int .i64 f]), (0, [.int .i64 acc, .sl 6 ps.length (List.flatMap poC ps)])]⟩ := rfl
theorem stS_s {o c acc f : Int} {ps : List Po} {l : List Int} (h : l ≠ []) : stS o c acc f ps l = ⟨52, 5, [], [(1000001, [.ptr 0 0, .ptr 1 0, .ptr 2 0, .ptr 3 0]), (4, l.map (D.int .i64)), (3, [.int .i64 o, .osl 4 1 l.length, .int .i64 c]), (2, [.int .i64 0, .nils, .int .i64 0]), (1, [.int .i64 f]), (0, [.int .i64 acc, .sl 6 ps.length (List.flatMap poC ps)])]⟩ := by
  cases l with
  | nil => exact absurd rfl h
  | cons a r => rfl
set_option maxRecDepth 100000 in
set_option maxHeartbeats 4000000 in
theorem fn_Statement (G : Glob) (acc x f t : Int) (ps : List Po) : FnF G Tryd.prog 22 [.agg (bkC acc ps), .int .i64 x, .int .i64 f, .int .i64 t] (.tup [.agg [.int .i64 (stO acc ps x f t), slI (stL acc ps x f t), .int .i64 (stC acc ps x f t)], .int .i64 (spE acc ps x f t)]) := by
  refine FnF.outT (d' := .agg [.int .i64 (stO acc ps x f t), slQ (stL acc ps x f t), .int .i64 (stC acc ps x f t)]) ?_ (.agg (.cons (.refl _) (.cons (slQ_w _) (.cons (.refl _) .nil))))
  have hC := fn_span G acc x f t ps
  have hO := fn_of G acc x t ps
  unfold bkC at hC hO ⊢
  refine FnF.mkRC (c := _) Tryd.func22 rfl rfl Tryd.ntmps22 Tryd.results22 ?_
  (simp -dsimp only [↓z_bodyR, List.length_cons, List.length_nil, Nat.zero_add, Nat.reduceAdd, Nat.reduceLeDiff, wfL, ↓z_r_seq, ↓z_r_region, ↓z_ops_plain, ↓z_box, ↓evW_tmp, ↓z_lk_env, ↓reduceIte, ↓z_cl_agg, ↓z_nmC_cons, ↓z_mn'_int, ↓z_mn'_sl, ↓z_nmC_nil, and_self, ↓z_new, ↓z_nm_nil, Nat.reduceLT, ↓z_pg_env, ↓z_mn_agg, ↓z_mn_int, ↓z_pg_env0, ↓z_put, ↓lkW_cons, Nat.reduceEqDiff, reduceCtorEq, ↓z_cl_int, ↓z_nm_cons, ↓z_pg_cons, ↓z_mn_ptr, ↓z_pg_nil, ↓z_alloc, ↓y_zr56, ↓z_assign, ↓evW_const, ↓constW_int, inR_i64, Int.reduceNeg, Int.reduceLE, ↓z_ops_nil, ↓z_seq_nrm, ↓z_load, ↓y_ty24, ↓y_sz24, ↓z_agTy_st, ↓loadW_ptr, ↓lkoW_cons, ↓z_rd_t, ↓z_sub_c, ↓z_sub_nil, ↓z_move, ↓y_ty3, ↓y_sz3, ↓z_agTy_int, ↓z_rd_f, ↓nthW_cons, ↓z_callv, ↓evW_func, ↓z_evL_cons, ↓z_evL_nil, ↓z_fun0, ↓z_coeL_cons, ↓z_coe_oag, ↓z_coeC_cons, ↓z_coeS_int, ↓z_coeS_sl, ↓z_coeC_nil, ↓z_coe_int, ↓z_coeL_nil, true_and])
  intro hd _ _ _
  refine call_fnL hC rfl fun _ => ?_
  (simp -dsimp only [↓z_put, Nat.reduceLT, ↓z_ops_plain, ↓z_assign, ↓evW_tmp, ↓lkW_cons, ↓reduceIte, ↓z_ops_nil, ↓z_seq_nrm, ↓z_r_seq, ↓z_r_region, ↓z_move, ↓z_binOp, ↓evW_const, ↓constW_int, inR_i64, Int.reduceNeg, Int.reduceLE, and_self, ↓z_bn_neq, ↓z_r_cond, ↓z_cnd, ↓z_gdt, ne_eq, ↓z_build, ↓y_ty56, ↓z_blTy_st, ↓y_zr56, ↓z_bld_nil, Nat.reduceEqDiff, ↓z_store, ↓y_sz56, ↓z_cl_oag, List.length_cons, List.length_nil, Nat.zero_add, Nat.reduceAdd, ↓z_store_ptr, ↓lkoW_cons, Nat.reduceLeDiff, ↓spsW_cons, ↓drW_cons, reduceCtorEq, Nat.reduceSub, ↓drW_nil, ↓z_cat_nil_r, ↓z_so_cons, ↓z_put_none, ↓z_r_ret, ↓z_seq_rt, ↓z_end_rt, resLW, res1W, ↓z_agTy_st, ↓z_frL_cons, ↓z_frL_nil, and_true, ↓z_coeL_cons, ↓z_coeL_nil, ↓z_pack2, D.tup.injEq, List.cons.injEq, ↓z_fr_int, ↓z_coe_int, ↓loadW_ptr, ↓z_rd_t, ↓z_sub_c, ↓z_sub_nil, ↓z_fr_oag, ↓z_frSL_cons, ↓z_frS_int, ↓z_frS_nils, ↓z_frSL_nil, ↓z_coe_oag, ↓z_coeC_cons, ↓z_coeS_int, ↓z_coeS_nils, ↓z_coeC_nil, D.agg.injEq, D.int.injEq, true_and, ↓z_r_skip, ↓z_r_region_d, ↓y_mix, z_ite, Classical.not_not])
  refine ⟨fun c0 => ?_, fun c0 => ?_⟩
  · unfold stO stC stL
    rw [if_neg c0, if_neg c0, if_neg c0]
    exact ⟨by rfl, rfl, rfl, rfl⟩
  obtain ⟨c1, c2, c3, c4, c5, c6⟩ := spE_ok c0
  have hb := chkB_ok c1
  have hlen := hb.len
  have hB1 := fn_balance G acc x f ps hb
  have hB2 := fn_balance G acc x t ps hb
  have hY := yd_of G acc x t ps hb
  unfold bkC at hB1 hB2 hY
  unfold stO stC stL
  rw [if_pos c0, if_pos c0, if_pos c0]
  refine rgn_x 10 [] (by decide +kernel) ?_
  (simp -dsimp only [↓z_nmRE_cons, ↓z_nmR_bool, ↓z_nmR_int, ↓z_nmR_oag, ↓z_nmRS_int, ↓z_nmRS_sl, ↓z_nmRS_nil, ↓z_nmR_ptr, Nat.zero_add, Nat.reduceAdd, Nat.reduceLT, Nat.reduceLeDiff, or_false, ↓z_nmR_agg, ↓z_nmRE_nil, and_self, ↓z_nmRO_cons, ↓z_nmRL_cons, ↓z_nmR_nils, ↓z_nmRL_nil, ↓z_nmR_sl, ↓z_nmRO_nil, ↓z_splitO_cons, List.not_mem_nil, ↓reduceIte, ↓z_splitO_nil, List.take_succ_cons, List.take_zero, ne_eq, List.drop_succ_cons, List.drop_zero, ↓z_r_seq, ↓z_r_region, ↓z_ops_plain, ↓z_load, ↓y_ty24, ↓y_sz24, ↓z_agTy_st, ↓z_move, ↓z_callv, ↓evW_func, ↓z_evL_cons, ↓z_evL_nil, ↓z_fun0, ↓z_coeL_cons, ↓z_coeL_nil, resLW, res1W, ↓y_ty56, ↓y_sz56, ↓z_frL_cons, ↓z_frL_nil, and_true, ↓z_pack2, D.tup.injEq, List.cons.injEq, ↓z_store, ↓evW_tmp, ↓z_put_none, ↓z_ops_nil, ↓z_seq_nrm, ↓z_drx_load, ↓z_drxS, ↓z_grd_none, ↓z_withE, ↓z_rd_tmp, ↓lkW_cons, Nat.reduceEqDiff, ↓z_rd_nil, ↓z_ap_cons, ↓z_ap_nil, ↓z_apO_cons, ↓z_apO_nil, ↓z_or_load, ↓loadW_ptr, ↓lkoW_cons, reduceCtorEq, ↓z_rd_t, List.length_cons, List.length_nil, ↓z_sub_c, ↓z_sub_nil, true_and, ↓z_exD_all, ↓z_exD_all2, ↓z_exD_eq, ↓z_put, ↓z_drxK, ↓z_drx_move, ↓z_or_move, ↓y_ty3, ↓y_sz3, ↓z_agTy_int, ↓z_rd_f, ↓nthW_cons, ↓z_drx_callv])
  refine cv_ex ?_
  (simp -dsimp only [↓z_drxA_callv, ↓z_grd_none, ↓z_withE, ↓z_rd_func, ↓z_rd_tmp, ↓lkW_cons, Nat.reduceEqDiff, ↓reduceIte, ↓z_rd_nil]); (try simp only [Int.toNat_natCast, Nat.mul_one, Bool.or_false, Bool.false_or, Bool.or_self, Bool.or_true])
  refine ex_mk (.int .i64 (balT x (f - 1) ps)) (fun E X => by
    (simp -dsimp only [↓z_ap_cons, ↓z_ap_nil, ↓z_apO_cons, ↓z_apO_nil, ↓z_callv, ↓evW_func, ↓z_evL_cons, ↓evW_tmp, ↓lkW_cons, ↓reduceIte, Nat.reduceEqDiff, ↓z_evL_nil, ↓z_fun0, ↓z_coeL_cons, ↓z_coe_oag, ↓z_coeC_cons, ↓z_coeS_int, ↓z_coeS_sl, ↓z_coeC_nil, ↓z_coe_int, ↓z_coeL_nil]); (try simp only [Int.toNat_natCast, Nat.mul_one, Bool.or_false, Bool.false_or, Bool.or_self, Bool.or_true])
    exact call_fn hB1 fun _ => ⟨rfl, rfl⟩) ?_
  (simp -dsimp only [↓z_nmR_int, ↓z_put, Nat.reduceLT, ↓z_drxK, ↓z_drx_load, ↓z_drxS, ↓z_grd_none, ↓z_withE, ↓z_rd_tmp, ↓lkW_cons, Nat.reduceEqDiff, ↓reduceIte, ↓z_rd_nil, ↓z_ap_cons, ↓z_ap_nil, ↓z_apO_cons, ↓z_apO_nil, ↓z_or_load, ↓z_load, ↓evW_tmp, ↓y_ty24, ↓y_sz24, ↓z_agTy_st, ↓loadW_ptr, ↓lkoW_cons, reduceCtorEq, ↓z_rd_t, Nat.zero_add, List.length_cons, List.length_nil, Nat.reduceAdd, Nat.reduceLeDiff, ↓z_sub_c, ↓z_sub_nil, and_true, true_and, ↓z_exD_all, ↓z_exD_all2, ↓z_exD_eq, ↓z_nmR_oag, ↓z_nmRS_int, ↓z_nmRS_sl, ↓z_nmRS_nil, ↓z_drx_move, ↓z_or_move, ↓z_move, ↓z_drx_callv]); (try simp only [Int.toNat_natCast, Nat.mul_one, Bool.or_false, Bool.false_or, Bool.or_self, Bool.or_true])
  refine cv_ex ?_
  (simp -dsimp only [↓z_drxA_callv, ↓z_grd_none, ↓z_withE, ↓z_rd_func, ↓z_rd_tmp, ↓lkW_cons, Nat.reduceEqDiff, ↓reduceIte, ↓z_rd_nil]); (try simp only [Int.toNat_natCast, Nat.mul_one, Bool.or_false, Bool.false_or, Bool.or_self, Bool.or_true])
  refine ex_mk (.int .i64 (balT x (t - 1) ps)) (fun E X => by
    (simp -dsimp only [↓z_ap_cons, ↓z_ap_nil, ↓z_apO_cons, ↓z_apO_nil, ↓z_callv, ↓evW_func, ↓z_evL_cons, ↓evW_tmp, ↓lkW_cons, ↓reduceIte, Nat.reduceEqDiff, ↓z_evL_nil, ↓z_fun0, ↓z_coeL_cons, ↓z_coe_oag, ↓z_coeC_cons, ↓z_coeS_int, ↓z_coeS_sl, ↓z_coeC_nil, ↓z_coe_int, ↓z_coeL_nil]); (try simp only [Int.toNat_natCast, Nat.mul_one, Bool.or_false, Bool.false_or, Bool.or_self, Bool.or_true])
    exact call_fn hB2 fun _ => ⟨rfl, rfl⟩) ?_
  (simp -dsimp only [↓z_nmR_int, ↓z_put, Nat.reduceLT, ↓z_drxK, ↓z_drx_build, ↓z_drxS, ↓z_grd_none, ↓z_withE, ↓z_mpO_cons, ↓z_rd_tmp, ↓lkW_cons, Nat.reduceEqDiff, ↓reduceIte, ↓z_rd_nil, ↓z_mpO_nil, ↓z_ap_app, ↓z_ap_nil, ↓z_ap_cons, ↓z_apO_cons, ↓z_apO_nil, ↓z_or_build, ↓z_build, ↓y_ty56, ↓z_blTy_st, ↓y_zr56, ↓z_bld_cons, ↓y_fl56x0, ↓y_sz3, ↓evW_tmp, ↓z_cl_int, List.length_cons, List.length_nil, Nat.zero_add, Nat.reduceAdd, Nat.reduceLeDiff, ↓spsW_cons, ↓drW_cons, reduceCtorEq, Nat.reduceSub, ↓catW_cons, ↓catW_nil, ↓y_fl56x2, ↓drW_nil, ↓z_cat_nil_r, ↓z_bld_nil, and_true, true_and, ↓z_exD_all, ↓z_exD_all2, ↓z_exD_and, ↓z_exD_eq, ↓z_nmR_oag, ↓z_nmRS_int, ↓z_nmRS_nils, ↓z_nmRS_nil, ↓z_drx_alloc, ↓z_nmRL_cons, ↓z_nmR_nils, ↓z_nmRL_nil, and_self, ↓z_drx_nil, ↓z_cl_oag, ↓z_store_ptr, ↓lkoW_cons, ↓z_so_cons, ↓loadW_ptr, ↓z_rd_t, ↓z_sub_c, ↓z_sub_nil, ↓z_coe_oag, ↓z_coeC_cons, ↓z_coeS_int, ↓z_coeS_sl, ↓z_coeC_nil, ↓z_coe_int]); (try simp only [Int.toNat_natCast, Nat.mul_one, Bool.or_false, Bool.false_or, Bool.or_self, Bool.or_true])
  refine ⟨by rfl, ?_⟩
  refine call_fn hO fun _ => ?_
  (simp -dsimp only [↓z_put, Nat.reduceLT, ↓z_ops_nil, ↓z_seq_nrm, ↓z_r_block, ↓z_r_rng, ↓evW_tmp, ↓lkW_cons, ↓reduceIte, true_and]); (try simp only [Int.toNat_natCast, Nat.mul_one, Bool.or_false, Bool.false_or, Bool.or_self, Bool.or_true])
  have hend := lnP_end (x := x) (f := f) (t := t) hb.srt
  refine rng_mk _ [(4, .ptr 0 0), (6, .ptr 1 0), (8, .ptr 2 0), (11, .ptr 3 0)] (fun i => stS (balT x (f - 1) ps) (balT x (t - 1) ps) acc f ps (lnP x f t ps i)) hY (fun ds hds => by obtain ⟨r, _, rfl⟩ := List.mem_map.1 hds; rfl) (by simp) ?_ ?_ ?_
  · show wkE _ _ ∧ _ ∧ wkO _ (stS _ _ acc f ps []).own
    rw [stS_0]
    (simp -dsimp only [↓z_wkE_cons, ↓lkW_cons, Nat.reduceEqDiff, ↓reduceIte, ↓z_wkE_nil, and_self, ↓z_noO_cons, not_false_eq_true, reduceCtorEq, ↓z_noO_nil, ↓z_snd_cons, ↓z_snd_nil, ↓z_wkO_cons, ↓lkoW_cons, ↓z_wkO_nil]); (try simp only [Int.toNat_natCast, Nat.mul_one, Bool.or_false, Bool.false_or, Bool.or_self, Bool.or_true])
  · intro i ds hi
    unfold ofY at hi
    rw [List.getElem?_map] at hi
    obtain ⟨y, hy, rfl⟩ := Option.map_eq_some_iff.1 hi
    obtain ⟨hil, rfl⟩ := List.getElem?_eq_some_iff.1 hy
    obtain ⟨hk, e, _, _⟩ := ofP_mem (List.getElem_mem hil)
    have hs := lnP_s (f := f) hil
    have hle := lnP_le (x := x) (f := f) (t := t) (ps := ps) i
    have hl2 := po_len ps
    generalize (ofP x t ps)[i] = y at hk e hs
    obtain ⟨k, p⟩ := y
    simp only at e hk hs
    subst e
    show wfL _ (lkoW 1000001 (stS _ _ acc f ps (lnP x f t ps i)).own _)
    by_cases g : f ≤ ps[k].t
    · rw [if_pos g] at hs
      by_cases e0 : lnP x f t ps i = []
      · rw [e0] at hs ⊢
        rw [hs, stS_0, stS_s (by simp)]
        (simp -dsimp only [wfL, ↓z_region, ↓z_ops_plain, ↓z_assign, ↓evW_tmp, ↓z_par_cons, ↓z_par_nil, ↓z_put, Nat.reduceLT, ↓z_ops_nil, ↓z_onlyN, ↓z_block, ↓z_seq, ↓z_region_d, ↓y_mix, true_and, ↓lkW_cons, ↓reduceIte, ↓lkoW_cons])
        intro _ _
        refine rgn_q (by decide +kernel) rfl ?_
        (simp -dsimp only [↓z_ops_plain, ↓z_fieldAddr, ↓evW_tmp, ↓lkW_cons, Nat.reduceEqDiff, ↓reduceIte, ↓z_par_cons, ↓z_par_nil, ↓z_zp_cons, ↓z_zp_nil, ↓y_fl24x1, ↓y_sz22, ne_eq, reduceCtorEq, not_false_eq_true, ↓z_put, Nat.reduceLT, ↓z_load, ↓y_ty22, ↓z_agTy_sl, ↓z_move, ↓z_indexAddr, ↓z_elTy_sl, ↓y_sz26, ↓y_fl26x3, ↓y_sz3, ↓y_ty3, ↓z_agTy_int, ↓z_binOp, ↓z_ops_nil, ↓z_seq_nrm, ↓z_cond, ↓z_region, ↓y_fl56x1, ↓y_sz54, ↓y_ty54, ↓z_buildSlice, ↓z_slTy, Nat.mul_one, Nat.reduceLeDiff, maxLen_lit, ↓y_zr3, List.length_cons, List.length_nil, Nat.zero_add, ↓z_repL_s, ↓z_repL_0, ↓z_cat_nil_r, ↓z_bld_cons, ↓z_cl_int, ↓spsW_cons, ↓drW_cons, ↓drW_nil, ↓z_bld_nil, ↓z_allP_cons, ↓z_isP_int, ↓z_allP_nil, and_self, ↓z_callb, ↓z_evL_cons, ↓z_evL_nil, ↓z_append, ↓z_nint_sl, ↓y_by3, ↓z_src_slx, ↓z_store, ↓z_put_none, ↓z_blk_nrm, ↓z_onlyN, ↓z_wkO_cons, List.nil_append, ↓z_wkO_nil, and_true, true_and, ↓z_fa_ptr, ↓loadW_ptr, ↓lkoW_cons, ↓z_rd_f, ↓nthW_cons, Nat.reduceSub, ↓z_app_nils, ↓z_room, Nat.reduceMul, ↓z_new, ↓z_nm_cons, ↓z_nmC_cons, ↓z_mn'_ptr, ↓z_nmC_nil, ↓z_mn'_int, ↓z_mn'_nils, ↓z_mn'_sl, ↓z_nm_nil, ↓z_pg_cons, ↓z_mn_slx, ↓z_mn_int, ↓z_mn_nils, ↓z_mn_ptr, ↓z_pg_nil, ↓z_cl_osl, ↓z_store_ptr, Nat.reduceAdd, ↓catW_cons, ↓catW_nil, ↓z_so_cons, ↓z_skip, List.cons.injEq, ↓z_ix_sl, ↓z_fa_rop, ↓loadW_rop, ↓z_mn_rop, ↓z_mn_sl, nth_po3, ↓z_bn_geq, ↓z_cnd, ↓z_gdt, ↓z_mn_bool, z_ite]); (try simp only [Int.toNat_natCast])
        exact ⟨by omega, by omega, hk, fun _ => rfl, fun h => absurd g h⟩
      · rw [hs, stS_s e0, stS_s (by simp)]
        (simp -dsimp only [wfL, ↓z_region, ↓z_ops_plain, ↓z_assign, ↓evW_tmp, ↓z_par_cons, ↓z_par_nil, ↓z_put, Nat.reduceLT, ↓z_ops_nil, ↓z_onlyN, ↓z_block, ↓z_seq, ↓z_region_d, ↓y_mix, true_and, ↓lkW_cons, ↓reduceIte, ↓lkoW_cons])
        intro _ _
        refine rgn_q (by decide +kernel) rfl ?_
        (simp -dsimp only [↓z_ops_plain, ↓z_fieldAddr, ↓evW_tmp, ↓lkW_cons, Nat.reduceEqDiff, ↓reduceIte, ↓z_par_cons, ↓z_par_nil, ↓z_zp_cons, ↓z_zp_nil, ↓y_fl24x1, ↓y_sz22, ne_eq, reduceCtorEq, not_false_eq_true, ↓z_put, Nat.reduceLT, ↓z_load, ↓y_ty22, ↓z_agTy_sl, ↓z_move, ↓z_indexAddr, ↓z_elTy_sl, ↓y_sz26, ↓y_fl26x3, ↓y_sz3, ↓y_ty3, ↓z_agTy_int, ↓z_binOp, ↓z_ops_nil, ↓z_seq_nrm, ↓z_cond, ↓z_region, ↓y_fl56x1, ↓y_sz54, ↓y_ty54, ↓z_buildSlice, ↓z_slTy, Nat.mul_one, Nat.reduceLeDiff, maxLen_lit, ↓y_zr3, List.length_cons, List.length_nil, Nat.zero_add, ↓z_repL_s, ↓z_repL_0, ↓z_cat_nil_r, ↓z_bld_cons, ↓z_cl_int, ↓spsW_cons, ↓drW_cons, ↓drW_nil, ↓z_bld_nil, ↓z_allP_cons, ↓z_isP_int, ↓z_allP_nil, and_self, ↓z_callb, ↓z_evL_cons, ↓z_evL_nil, ↓z_append, ↓z_nint_sl, ↓y_by3, ↓z_src_slx, ↓z_store, ↓z_put_none, ↓z_blk_nrm, ↓z_onlyN, ↓z_wkO_cons, List.length_append, ↓z_wkO_nil, and_true, true_and, ↓z_fa_ptr, ↓loadW_ptr, ↓lkoW_cons, ↓z_rd_f, ↓nthW_cons, Nat.reduceSub, ↓z_app_osl, List.length_map, ↓z_nmC_int, ↓z_room, ↓z_pgo_cons, ↓z_nmC_cons, ↓z_mn'_ptr, ↓z_nmC_nil, ↓z_pgc_nm, ↓z_pgc_cons, ↓z_mn_int, ↓z_mn_osl, ↓z_mn'_int, ↓z_mn'_nils, ↓z_mn'_sl, ↓z_pgo_nil, ↓z_pg_cons, ↓z_mn_slx, ↓z_mn_ptr, ↓z_pg_nil, ↓z_so_cons, ↓z_cl_osl, ↓z_store_ptr, Nat.reduceAdd, ↓catW_cons, ↓catW_nil, ↓z_skip, List.cons.injEq, D.osl.injEq, ↓z_ix_sl, ↓z_fa_rop, ↓loadW_rop, ↓z_mn_rop, ↓z_mn_sl, nth_po3, ↓z_bn_geq, ↓z_cnd, ↓z_gdt, ↓z_mn_bool, z_ite]); (try simp only [Int.toNat_natCast])
        exact ⟨by omega, by omega, hk, fun _ => ⟨by omega, by omega, by simp⟩, fun h => absurd g h⟩
    · rw [if_neg g, List.append_nil] at hs
      rw [hs]
      by_cases e0 : lnP x f t ps i = []
      · rw [e0, stS_0]
        (simp -dsimp only [wfL, ↓z_region, ↓z_ops_plain, ↓z_assign, ↓evW_tmp, ↓z_par_cons, ↓z_par_nil, ↓z_put, Nat.reduceLT, ↓z_ops_nil, ↓z_onlyN, ↓z_block, ↓z_seq, ↓z_region_d, ↓y_mix, true_and, ↓lkW_cons, ↓reduceIte, ↓lkoW_cons])
        intro _ _
        refine rgn_q (by decide +kernel) rfl ?_
        (simp -dsimp only [↓z_ops_plain, ↓z_fieldAddr, ↓evW_tmp, ↓lkW_cons, Nat.reduceEqDiff, ↓reduceIte, ↓z_par_cons, ↓z_par_nil, ↓z_zp_cons, ↓z_zp_nil, ↓y_fl24x1, ↓y_sz22, ne_eq, reduceCtorEq, not_false_eq_true, ↓z_put, Nat.reduceLT, ↓z_load, ↓y_ty22, ↓z_agTy_sl, ↓z_move, ↓z_indexAddr, ↓z_elTy_sl, ↓y_sz26, ↓y_fl26x3, ↓y_sz3, ↓y_ty3, ↓z_agTy_int, ↓z_binOp, ↓z_ops_nil, ↓z_seq_nrm, ↓z_cond, ↓z_region, ↓y_fl56x1, ↓y_sz54, ↓y_ty54, ↓z_buildSlice, ↓z_slTy, Nat.mul_one, Nat.reduceLeDiff, maxLen_lit, ↓y_zr3, List.length_cons, List.length_nil, Nat.zero_add, ↓z_repL_s, ↓z_repL_0, ↓z_cat_nil_r, ↓z_bld_cons, ↓z_cl_int, ↓spsW_cons, ↓drW_cons, ↓drW_nil, ↓z_bld_nil, ↓z_allP_cons, ↓z_isP_int, ↓z_allP_nil, and_self, ↓z_callb, ↓z_evL_cons, ↓z_evL_nil, ↓z_append, ↓z_nint_sl, ↓y_by3, ↓z_src_slx, ↓z_store, ↓z_put_none, ↓z_blk_nrm, ↓z_onlyN, ↓z_wkO_cons, ↓z_wkO_nil, and_true, true_and, ↓z_fa_ptr, ↓loadW_ptr, ↓lkoW_cons, ↓z_rd_f, ↓nthW_cons, Nat.reduceSub, ↓z_app_nils, ↓z_room, Nat.reduceMul, ↓z_new, ↓z_nm_cons, ↓z_nmC_cons, ↓z_mn'_ptr, ↓z_nmC_nil, ↓z_mn'_int, ↓z_mn'_nils, ↓z_mn'_sl, ↓z_nm_nil, ↓z_pg_cons, ↓z_mn_slx, ↓z_mn_int, ↓z_mn_nils, ↓z_mn_ptr, ↓z_pg_nil, ↓z_cl_osl, ↓z_store_ptr, Nat.reduceAdd, ↓catW_cons, ↓catW_nil, ↓z_so_cons, List.cons.injEq, ↓z_skip, ↓z_ix_sl, ↓z_fa_rop, ↓loadW_rop, ↓z_mn_rop, ↓z_mn_sl, nth_po3, ↓z_bn_geq, ↓z_cnd, ↓z_gdt, ↓z_mn_bool, z_ite]); (try simp only [Int.toNat_natCast])
        exact ⟨by omega, by omega, hk, fun h => absurd h g, fun _ => trivial⟩
      · rw [stS_s e0]
        (simp -dsimp only [wfL, ↓z_region, ↓z_ops_plain, ↓z_assign, ↓evW_tmp, ↓z_par_cons, ↓z_par_nil, ↓z_put, Nat.reduceLT, ↓z_ops_nil, ↓z_onlyN, ↓z_block, ↓z_seq, ↓z_region_d, ↓y_mix, true_and, ↓lkW_cons, ↓reduceIte, ↓lkoW_cons])
        intro _ _
        refine rgn_q (by decide +kernel) rfl ?_
        (simp -dsimp only [↓z_ops_plain, ↓z_fieldAddr, ↓evW_tmp, ↓lkW_cons, Nat.reduceEqDiff, ↓reduceIte, ↓z_par_cons, ↓z_par_nil, ↓z_zp_cons, ↓z_zp_nil, ↓y_fl24x1, ↓y_sz22, ne_eq, reduceCtorEq, not_false_eq_true, ↓z_put, Nat.reduceLT, ↓z_load, ↓y_ty22, ↓z_agTy_sl, ↓z_move, ↓z_indexAddr, ↓z_elTy_sl, ↓y_sz26, ↓y_fl26x3, ↓y_sz3, ↓y_ty3, ↓z_agTy_int, ↓z_binOp, ↓z_ops_nil, ↓z_seq_nrm, ↓z_cond, ↓z_region, ↓y_fl56x1, ↓y_sz54, ↓y_ty54, ↓z_buildSlice, ↓z_slTy, Nat.mul_one, Nat.reduceLeDiff, maxLen_lit, ↓y_zr3, List.length_cons, List.length_nil, Nat.zero_add, ↓z_repL_s, ↓z_repL_0, ↓z_cat_nil_r, ↓z_bld_cons, ↓z_cl_int, ↓spsW_cons, ↓drW_cons, ↓drW_nil, ↓z_bld_nil, ↓z_allP_cons, ↓z_isP_int, ↓z_allP_nil, and_self, ↓z_callb, ↓z_evL_cons, ↓z_evL_nil, ↓z_append, ↓z_nint_sl, ↓y_by3, ↓z_src_slx, ↓z_store, ↓z_put_none, ↓z_blk_nrm, ↓z_onlyN, ↓z_wkO_cons, ↓z_wkO_nil, and_true, true_and, ↓z_fa_ptr, ↓loadW_ptr, ↓lkoW_cons, ↓z_rd_f, ↓nthW_cons, Nat.reduceSub, ↓z_app_osl, List.length_map, ↓z_nmC_int, ↓z_room, ↓z_pgo_cons, ↓z_nmC_cons, ↓z_mn'_ptr, ↓z_nmC_nil, ↓z_pgc_nm, ↓z_pgc_cons, ↓z_mn_int, ↓z_mn_osl, ↓z_mn'_int, ↓z_mn'_nils, ↓z_mn'_sl, ↓z_pgo_nil, ↓z_pg_cons, ↓z_mn_slx, ↓z_mn_ptr, ↓z_pg_nil, ↓z_so_cons, ↓z_cl_osl, ↓z_store_ptr, Nat.reduceAdd, ↓catW_cons, ↓catW_nil, List.cons.injEq, D.osl.injEq, ↓z_skip, ↓z_ix_sl, ↓z_fa_rop, ↓loadW_rop, ↓z_mn_rop, ↓z_mn_sl, nth_po3, ↓z_bn_geq, ↓z_cnd, ↓z_gdt, ↓z_mn_bool, z_ite]); (try simp only [Int.toNat_natCast])
        exact ⟨by omega, by omega, hk, fun h => absurd h g, fun _ => trivial⟩
  · rw [ofY_len, hend]
    by_cases e0 : lnZ x f t ps = []
    · rw [e0, stS_0]
      (simp -dsimp only [↓z_blk_nrm, ↓z_seq_nrm, ↓z_r_seq, ↓z_r_region, ↓z_ops_plain, ↓z_load, ↓evW_tmp, ↓y_ty56, ↓y_sz56, ↓z_agTy_st, ↓z_put, Nat.reduceLT, ↓z_store, ↓lkW_cons, Nat.reduceEqDiff, ↓reduceIte, ↓z_put_none, ↓z_assign, ↓evW_const, ↓constW_int, inR_i64, Int.reduceNeg, Int.reduceLE, and_self, ↓z_ops_nil, ↓z_r_ret, ↓z_end_rt, resLW, res1W, ↓z_frL_cons, ↓z_frL_nil, and_true, ↓z_coeL_cons, ↓z_coeL_nil, ↓z_pack2, D.tup.injEq, List.cons.injEq, true_and, ↓z_dro_cons, reduceCtorEq, ↓z_dro_nil, ↓lkoW_cons, ↓z_zp_cons, ↓z_zp_nil, ↓z_store_ptr, Nat.zero_add, List.length_cons, List.length_nil, Nat.reduceAdd, Nat.reduceLeDiff, ↓spsW_cons, ↓drW_cons, Nat.reduceSub, ↓drW_nil, ↓z_cat_nil_r, ↓z_so_cons, ↓z_fr_int, ↓z_coe_int, D.int.injEq, ↓loadW_ptr, ↓z_rd_t, ↓z_fr_oag, ↓z_coe_oag, D.agg.injEq, z_sub, List.drop_zero, ↓z_sub_c, ↓z_sub_nil, ↓z_cl_oag, List.take_succ_cons, List.take_zero, ↓z_frSL_cons, ↓z_frS_int, ↓z_frS_nils, ↓z_frSL_nil, ↓z_coeC_cons, ↓z_coeS_int, ↓z_coeS_nils, ↓z_coeC_nil]); (try simp only [Int.toNat_natCast, Nat.mul_one, Bool.or_false, Bool.false_or, Bool.or_self, Bool.or_true])
      exact ⟨rfl, c0.symm⟩
    · rw [stS_s e0]
      (simp -dsimp only [↓z_blk_nrm, ↓z_seq_nrm, ↓z_r_seq, ↓z_r_region, ↓z_ops_plain, ↓z_load, ↓evW_tmp, ↓y_ty56, ↓y_sz56, ↓z_agTy_st, ↓z_put, Nat.reduceLT, ↓z_store, ↓lkW_cons, Nat.reduceEqDiff, ↓reduceIte, ↓z_put_none, ↓z_assign, ↓evW_const, ↓constW_int, inR_i64, Int.reduceNeg, Int.reduceLE, and_self, ↓z_ops_nil, ↓z_r_ret, ↓z_end_rt, resLW, res1W, ↓z_frL_cons, ↓z_frL_nil, and_true, ↓z_coeL_cons, ↓z_coeL_nil, ↓z_pack2, D.tup.injEq, List.cons.injEq, true_and, ↓z_dro_cons, reduceCtorEq, ↓z_dro_nil, ↓lkoW_cons, ↓z_zp_cons, ↓z_zp_nil, ↓z_store_ptr, Nat.zero_add, List.length_cons, List.length_nil, Nat.reduceAdd, Nat.reduceLeDiff, ↓spsW_cons, ↓drW_cons, Nat.reduceSub, ↓drW_nil, ↓z_cat_nil_r, ↓z_so_cons, ↓z_fr_int, ↓z_coe_int, D.int.injEq, ↓loadW_ptr, ↓z_rd_t, ↓z_fr_oag, ↓z_coe_oag, D.agg.injEq, z_sub, List.drop_zero, ↓z_sub_c, ↓z_sub_nil, ↓z_cl_oag, List.take_succ_cons, List.take_zero, ↓z_frSL_cons, ↓z_frS_int, ↓z_frS_osl, ↓z_frC_ints, ↓z_frSL_nil, ↓z_coeC_cons, ↓z_coeS_int, ↓z_coeS_osl, ↓z_allP_int, List.length_map, Nat.mul_one, ↓z_coeC_nil]); (try simp only [Int.toNat_natCast, Nat.mul_one, Bool.or_false, Bool.false_or, Bool.or_self, Bool.or_true])
      exact ⟨by unfold slQ; rw [if_neg e0], c0.symm⟩
def lnR (x f t : Int) (ps : List Po) (i : Nat) : List Int := lnZ x f t (ps.take i)
theorem lnR_s {x f t : Int} {ps : List Po} {i : Nat} (h : i < ps.length) : lnR x f t ps (i + 1) = lnR x f t ps i ++ if f ≤ ps[i].t ∧ ps[i].t < t ∧ (ps[i].d = x ∨ ps[i].c = x) then [(i : Int)] else [] := by
  unfold lnR lnZ
  rw [gP_s h, List.filter_append, List.map_append]
  congr 1
  by_cases g : ps[i].d = x ∨ ps[i].c = x
  · rw [if_pos g]
    by_cases g2 : f ≤ ps[i].t ∧ ps[i].t < t
    · rw [if_pos ⟨g2.1, g2.2, g⟩, List.filter_cons_of_pos (by simp [inT, g2])]; rfl
    · rw [if_neg (fun h => g2 ⟨h.1, h.2.1⟩), List.filter_cons_of_neg (by simp only [inT, decide_eq_true_eq]; exact g2)]; rfl
  · rw [if_neg g, if_neg (fun h => g h.2.2)]; rfl
theorem lnR_le {x f t : Int} {ps : List Po} (i : Nat) : (lnR x f t ps i).length ≤ ps.length := by
  unfold lnR lnZ
  rw [List.length_map]
  exact Nat.le_trans (List.length_filter_le _ _) (Nat.le_trans (gP_le 0 _) (List.length_take_le' _ _))
def stT (o c acc x f t : Int) (ps : List Po) (i : Nat) : List Int → St
  | [] => ⟨77, 3, [(11, .int .i64 i), (10, .ptr 2 0), (8, .ptr 1 0), (4, .ptr 0 0), (1, .int .i64 x), (2, .int .i64 f), (3, .int .i64 t)], [(2, [.int .i64 o, .nils, .int .i64 c]), (1, [.int .i64 0, .nils, .int .i64 0, .int .i64 0]), (0, [.int .i64 acc, .sl 6 ps.length (List.flatMap poC ps)])]⟩
  | a :: r => ⟨77, 5, [(11, .int .i64 i), (10, .ptr 2 0), (8, .ptr 1 0), (4, .ptr 0 0), (1, .int .i64 x), (2, .int .i64 f), (3, .int .i64 t)], [(4, (a :: r).map (D.int .i64)), (2, [.int .i64 o, .osl 4 1 (a :: r).length, .int .i64 c]), (1, [.int .i64 0, .nils, .int .i64 0, .int .i64 0]), (0, [.int .i64 acc, .sl 6 ps.length (List.flatMap poC ps)])]⟩
theorem stT_0 (o c acc x f t : Int) (ps : List Po) (i : Nat) : stT o c acc x f t ps i [] = ⟨77, 3, [(11, .int .i64 i), (10, .ptr 2 0), (8, .ptr 1 0), (4, .ptr 0 0), (1, .int .i64 x), (2, .int .i64 f), (3, .int .i64 t)], [(2, [.int .i64 o, .nils, .int .i64 c]), (1, [.int .i64 0, .nils, .int .i64 0, .int .i64 0]), (0, [.int .i64 acc, .sl 6 ps.length (List.flatMap poC ps)])]⟩ := rfl
theorem stT_s {o c acc x f t : Int} {ps : List Po} {i : Nat} {l : List Int} (h : l ≠ []) : stT o c acc x f t ps i l = ⟨77, 5, [(11, .int .i64 i), (10, .ptr 2 0), (8, .ptr 1 0), (4, .ptr 0 0), (1, .int .i64 x), (2, .int .i64 f), (3, .int .i64 t)], [(4, l.map (D.int .i64)), (2, [.int .i64 o, .osl 4 1 l.length, .int .i64 c]), (1, [.int .i64 0, .nils, .int .i64 0, .int .i64 0]), (0, [.int .i64 acc, .sl 6 ps.length (List.flatMap poC ps)])]⟩ := by
  cases l with
  | nil => exact absurd rfl h
  | cons a r => rfl
theorem balN_ok {acc x tick : Int} {ps : List Po} (h : chkB acc ps = 0) (h0 : 0 ≤ x) (h1 : x < acc) : balN acc ps x tick = balT x tick ps := if_pos ⟨h, h0, h1⟩
set_option maxRecDepth 100000 in
set_option maxHeartbeats 4000000 in
theorem fn_refStatement (G : Glob) (acc x f t : Int) (ps : List Po) : FnF G Tryd.prog 23 [.agg (bkC acc ps), .int .i64 x, .int .i64 f, .int .i64 t] (.agg [.int .i64 (stO acc ps x f t), slI (stL acc ps x f t), .int .i64 (stC acc ps x f t), .int .i64 (spE acc ps x f t)]) := by
  refine FnF.outW (d' := .agg [.int .i64 (stO acc ps x f t), slQ (stL acc ps x f t), .int .i64 (stC acc ps x f t), .int .i64 (spE acc ps x f t)]) ?_ (.agg (.cons (.refl _) (.cons (slQ_w _) (.cons (.refl _) (.cons (.refl _) .nil)))))
  have hC := fn_refspan G acc x f t ps
  unfold bkC at hC ⊢
  refine FnF.mk (c := _) Tryd.func23 rfl rfl Tryd.ntmps23 Tryd.results23 ?_
  (simp -dsimp only [bodyW, List.length_cons, List.length_nil, Nat.zero_add, Nat.reduceAdd, Nat.reduceLeDiff, wfL, ↓z_seq, ↓z_region, ↓z_ops_plain, ↓z_box, ↓evW_tmp, ↓z_lk_env, ↓reduceIte, ↓z_cl_agg, ↓z_nmC_cons, ↓z_mn'_int, ↓z_mn'_sl, ↓z_nmC_nil, and_self, ↓z_new, ↓z_nm_nil, Nat.reduceLT, ↓z_pg_env, ↓z_mn_agg, ↓z_mn_int, ↓z_pg_env0, ↓z_put, ↓z_alloc, ↓y_zr60, ↓z_nm_cons, ↓z_pg_cons, ↓z_mn_ptr, reduceCtorEq, ↓z_pg_nil, ↓z_ops_nil, ↓z_seq_nrm, ↓z_load, ↓lkW_cons, Nat.reduceEqDiff, ↓y_ty24, ↓y_sz24, ↓z_agTy_st, ↓loadW_ptr, ↓lkoW_cons, ↓z_rd_t, ↓z_sub_c, ↓z_sub_nil, ↓z_move, ↓z_callv, ↓evW_func, ↓z_evL_cons, ↓z_evL_nil, ↓z_fun0, ↓z_coeL_cons, ↓z_coe_oag, ↓z_coeC_cons, ↓z_coeS_int, ↓z_coeS_sl, ↓z_coeC_nil, ↓z_coe_int, ↓z_coeL_nil, true_and])
  intro hd _ _ _
  refine call_fnL hC rfl fun _ => ?_
  (simp -dsimp only [↓z_put, Nat.reduceLT, ↓z_ops_plain, ↓z_assign, ↓evW_tmp, ↓lkW_cons, ↓reduceIte, ↓z_ops_nil, ↓z_seq_nrm, ↓z_seq, ↓z_region, ↓z_move, ↓z_binOp, ↓evW_const, ↓constW_int, inR_i64, Int.reduceNeg, Int.reduceLE, and_self, ↓z_bn_neq, ↓z_cond, ↓z_cnd, ↓z_gdt, ne_eq, Nat.reduceEqDiff, ↓z_build, ↓y_ty60, ↓z_blTy_st, ↓y_zr60, ↓z_bld_cons, ↓y_fl60x1, ↓y_sz28, ↓z_cl_int, List.length_cons, List.length_nil, Nat.zero_add, Nat.reduceAdd, Nat.reduceLeDiff, ↓spsW_cons, reduceCtorEq, Nat.reduceSub, ↓drW_cons, ↓drW_nil, ↓z_cat_nil_r, ↓z_bld_nil, ↓z_store, ↓y_sz60, ↓z_cl_oag, ↓z_store_ptr, ↓lkoW_cons, ↓z_so_cons, ↓z_put_none, ↓z_ret, ↓z_seq_rt, ↓z_end_rt, resLW, res1W, ↓z_agTy_st, ↓z_frL_cons, ↓z_frL_nil, and_true, ↓z_coeL_cons, ↓z_coeL_nil, ↓z_pack1, ↓loadW_ptr, ↓z_rd_t, ↓z_sub_c, ↓z_sub_nil, ↓z_fr_oag, ↓z_frSL_cons, ↓z_frS_int, ↓z_frS_nils, ↓z_frSL_nil, ↓z_coe_oag, ↓z_coeC_cons, ↓z_coeS_int, ↓z_coeS_nils, ↓z_coeC_nil, D.agg.injEq, List.cons.injEq, D.int.injEq, true_and, ↓z_skip, ↓z_region_d, ↓y_mix, z_ite, Classical.not_not])
  refine ⟨fun c0 => ?_, fun c0 => ?_⟩
  · unfold stO stC stL
    rw [if_neg c0, if_neg c0, if_neg c0]
    exact ⟨by rfl, rfl, rfl, rfl⟩
  obtain ⟨c1, c2, c3, c4, c5, c6⟩ := spE_ok c0
  have hb := chkB_ok c1
  have hlen := hb.len
  have hB1 := fn_refBalance G acc x (f - 1) ps
  have hB2 := fn_refBalance G acc x (t - 1) ps
  rw [balN_ok c1 c2 c3] at hB1 hB2
  unfold bkC at hB1 hB2
  unfold stO stC stL
  rw [if_pos c0, if_pos c0, if_pos c0]
  refine rgn_x 14 [] (by decide +kernel) ?_
  (simp -dsimp only [↓z_nmRE_cons, ↓z_nmR_bool, ↓z_nmR_int, ↓z_nmR_oag, ↓z_nmRS_int, ↓z_nmRS_sl, ↓z_nmRS_nil, ↓z_nmR_ptr, Nat.zero_add, Nat.reduceAdd, Nat.reduceLT, Nat.reduceLeDiff, or_false, ↓z_nmR_agg, ↓z_nmRE_nil, and_self, ↓z_nmRO_cons, ↓z_nmRL_cons, ↓z_nmR_nils, ↓z_nmRL_nil, ↓z_nmR_sl, ↓z_nmRO_nil, ↓z_splitO_cons, List.not_mem_nil, ↓reduceIte, ↓z_splitO_nil, List.take_succ_cons, List.take_zero, ne_eq, List.drop_succ_cons, List.drop_zero, ↓z_seq, ↓z_region, ↓z_ops_plain, ↓z_assign, ↓evW_const, ↓constW_int, inR_i64, Int.reduceNeg, Int.reduceLE, ↓z_ops_nil, ↓z_seq_nrm, ↓z_block, ↓z_loop, true_and, resLW, res1W, ↓y_ty60, ↓y_sz60, ↓z_agTy_st, ↓z_frL_cons, ↓z_frL_nil, and_true, ↓z_coeL_cons, ↓z_coeL_nil, ↓z_pack1, ↓z_store, ↓evW_tmp, ↓y_sz56, ↓z_put_none, ↓z_drx_load, ↓z_drxS, ↓z_grd_none, ↓z_withE, ↓z_rd_tmp, ↓lkW_cons, Nat.reduceEqDiff, ↓z_rd_nil, ↓z_ap_cons, ↓z_ap_nil, ↓z_apO_cons, ↓z_apO_nil, ↓z_or_load, ↓z_load, ↓y_ty24, ↓y_sz24, ↓loadW_ptr, ↓lkoW_cons, reduceCtorEq, ↓z_rd_t, List.length_cons, List.length_nil, ↓z_sub_c, ↓z_sub_nil, ↓z_exD_all, ↓z_exD_all2, ↓z_exD_eq, ↓z_put, ↓z_drxK, ↓z_drx_move, ↓z_or_move, ↓z_move, ↓z_drx_binOp, ↓z_rd_const, ↓z_or_binOp, ↓z_binOp, ↓z_bn_sub, ↓wrW_i64, ↓z_exD_and, ↓z_drx_callv])
  refine ⟨by omega, cv_ex ?_⟩
  (simp -dsimp only [↓z_drxA_callv, ↓z_grd_none, ↓z_withE, ↓z_rd_func, ↓z_rd_tmp, ↓lkW_cons, Nat.reduceEqDiff, ↓reduceIte, ↓z_rd_nil]); (try simp only [Int.toNat_natCast, Nat.mul_one, Bool.or_false, Bool.false_or, Bool.or_self, Bool.or_true])
  refine ex_mk (.agg [.int .i64 (balT x (f - 1) ps), .int .i64 (balE acc ps x)]) (fun E X => by
    (simp -dsimp only [↓z_ap_cons, ↓z_ap_nil, ↓z_apO_cons, ↓z_apO_nil, ↓z_callv, ↓evW_func, ↓z_evL_cons, ↓evW_tmp, ↓lkW_cons, ↓reduceIte, Nat.reduceEqDiff, ↓z_evL_nil, ↓z_fun0, ↓z_coeL_cons, ↓z_coe_oag, ↓z_coeC_cons, ↓z_coeS_int, ↓z_coeS_sl, ↓z_coeC_nil, ↓z_coe_int, ↓z_coeL_nil]); (try simp only [Int.toNat_natCast, Nat.mul_one, Bool.or_false, Bool.false_or, Bool.or_self, Bool.or_true])
    exact call_fn hB1 fun _ => ⟨rfl, rfl⟩) ?_
  (simp -dsimp only [↓z_nmR_agg, ↓z_put, Nat.reduceLT, ↓z_drxK, ↓z_drx_field, ↓z_drxS, ↓z_grd_none, ↓z_withE, ↓z_rd_tmp, ↓lkW_cons, ↓reduceIte, ↓z_rd_nil, ↓z_ap_cons, ↓z_ap_nil, ↓z_apO_cons, ↓z_apO_nil, ↓z_or_field, ↓z_field, ↓evW_tmp, ↓y_fl37x0, ↓y_sz3, ↓y_ty3, ↓z_agTy_int, ↓z_fv_agg, ↓z_rd_f, ↓nthW_cons, and_true, ↓z_exD_all, ↓z_exD_all2, ↓z_exD_eq, ↓z_nmR_int, ↓z_drx_load, Nat.reduceEqDiff, ↓z_or_load, ↓z_load, ↓y_ty24, ↓y_sz24, ↓z_agTy_st, ↓loadW_ptr, ↓lkoW_cons, reduceCtorEq, ↓z_rd_t, Nat.zero_add, List.length_cons, List.length_nil, Nat.reduceAdd, Nat.reduceLeDiff, ↓z_sub_c, ↓z_sub_nil, true_and, ↓z_nmR_oag, ↓z_nmRS_int, ↓z_nmRS_sl, ↓z_nmRS_nil, ↓z_drx_move, ↓z_or_move, ↓z_move, ↓z_drx_binOp, ↓z_rd_const, ↓z_or_binOp, ↓z_binOp, ↓evW_const, ↓constW_int, inR_i64, Int.reduceNeg, Int.reduceLE, and_self, ↓z_bn_sub, ↓wrW_i64, ↓z_exD_and, ↓z_drx_callv]); (try simp only [Int.toNat_natCast, Nat.mul_one, Bool.or_false, Bool.false_or, Bool.or_self, Bool.or_true])
  refine ⟨by omega, cv_ex ?_⟩
  (simp -dsimp only [↓z_drxA_callv, ↓z_grd_none, ↓z_withE, ↓z_rd_func, ↓z_rd_tmp, ↓lkW_cons, Nat.reduceEqDiff, ↓reduceIte, ↓z_rd_nil]); (try simp only [Int.toNat_natCast, Nat.mul_one, Bool.or_false, Bool.false_or, Bool.or_self, Bool.or_true])
  refine ex_mk (.agg [.int .i64 (balT x (t - 1) ps), .int .i64 (balE acc ps x)]) (fun E X => by
    (simp -dsimp only [↓z_ap_cons, ↓z_ap_nil, ↓z_apO_cons, ↓z_apO_nil, ↓z_callv, ↓evW_func, ↓z_evL_cons, ↓evW_tmp, ↓lkW_cons, ↓reduceIte, Nat.reduceEqDiff, ↓z_evL_nil, ↓z_fun0, ↓z_coeL_cons, ↓z_coe_oag, ↓z_coeC_cons, ↓z_coeS_int, ↓z_coeS_sl, ↓z_coeC_nil, ↓z_coe_int, ↓z_coeL_nil]); (try simp only [Int.toNat_natCast, Nat.mul_one, Bool.or_false, Bool.false_or, Bool.or_self, Bool.or_true])
    exact call_fn hB2 fun _ => ⟨rfl, rfl⟩) ?_
  (simp -dsimp only [↓z_nmR_agg, ↓z_put, Nat.reduceLT, ↓z_drxK, ↓z_drx_field, ↓z_drxS, ↓z_grd_none, ↓z_withE, ↓z_rd_tmp, ↓lkW_cons, ↓reduceIte, ↓z_rd_nil, ↓z_ap_cons, ↓z_ap_nil, ↓z_apO_cons, ↓z_apO_nil, ↓z_or_field, ↓z_field, ↓evW_tmp, ↓y_fl37x0, ↓y_sz3, ↓y_ty3, ↓z_agTy_int, ↓z_fv_agg, ↓z_rd_f, ↓nthW_cons, and_true, ↓z_exD_all, ↓z_exD_all2, ↓z_exD_eq, ↓z_nmR_int, ↓z_drx_build, ↓z_mpO_cons, Nat.reduceEqDiff, ↓z_mpO_nil, ↓z_ap_app, ↓z_or_build, ↓z_build, ↓y_ty56, ↓z_blTy_st, ↓y_zr56, ↓z_bld_cons, ↓y_fl56x0, ↓z_cl_int, List.length_cons, List.length_nil, Nat.zero_add, Nat.reduceAdd, Nat.reduceLeDiff, ↓spsW_cons, ↓drW_cons, reduceCtorEq, Nat.reduceSub, ↓catW_cons, ↓catW_nil, ↓y_fl56x2, ↓drW_nil, ↓z_cat_nil_r, ↓z_bld_nil, true_and, ↓z_exD_and, ↓z_nmR_oag, ↓z_nmRS_int, ↓z_nmRS_nils, ↓z_nmRS_nil, ↓z_drx_alloc, ↓z_nmRL_cons, ↓z_nmR_nils, ↓z_nmRL_nil, and_self, ↓z_drx_nil, ↓z_cl_oag, ↓z_store_ptr, ↓lkoW_cons, ↓z_so_cons]); (try simp only [Int.toNat_natCast, Nat.mul_one, Bool.or_false, Bool.false_or, Bool.or_self, Bool.or_true])
  refine ⟨by rfl, ?_⟩
  refine hold_intro ⟨[], Nat, fun i => stT (balT x (f - 1) ps) (balT x (t - 1) ps) acc x f t ps i (lnR x f t ps i), fun i => i ≤ ps.length, fun i => ps.length - i, ?_, ?_⟩
  · refine ⟨0, by omega, ?_⟩
    show wkW _ (stT _ _ acc x f t ps 0 [])
    rw [stT_0]
    (simp -dsimp only [↓z_wk, ↓z_wkE_cons, ↓lkW_cons, ↓reduceIte, D.int.injEq, true_and, Nat.reduceEqDiff, reduceCtorEq, ↓z_wkE_nil, and_self, and_true, ↓z_wkO_cons, ↓lkoW_cons, ↓z_wkO_nil]); (try simp only [Int.toNat_natCast, Nat.mul_one, Bool.or_false, Bool.false_or, Bool.or_self, Bool.or_true])
    rfl
  intro i hi
  show codeW G _ _ (stT (balT x (f - 1) ps) (balT x (t - 1) ps) acc x f t ps i (lnR x f t ps i)) _
  by_cases h : i < ps.length
  · have hl2 := po_len ps
    have hsub := fun k => po_sub h k
    have hlt : ((i : Int) < (ps.length : Int)) = True := eq_true (by omega)
    have hs := lnR_s (x := x) (f := f) (t := t) h
    have hle := lnR_le (x := x) (f := f) (t := t) (ps := ps) i
    by_cases g : f ≤ ps[i].t ∧ ps[i].t < t ∧ (ps[i].d = x ∨ ps[i].c = x)
    · rw [if_pos g] at hs
      by_cases e0 : lnR x f t ps i = []
      · rw [e0] at hs ⊢
        rw [stT_0]
        (simp -dsimp only [↓z_seq, ↓z_region, ↓z_ops_plain, ↓z_move, ↓evW_tmp, ↓lkW_cons, ↓reduceIte, ↓z_put, Nat.reduceLT, ↓z_fieldAddr, Nat.reduceEqDiff, ↓y_fl24x1, ↓y_sz22, ne_eq, reduceCtorEq, not_false_eq_true, ↓z_fa_ptr, ↓z_load, ↓y_ty22, ↓z_agTy_sl, ↓loadW_ptr, ↓lkoW_cons, ↓z_rd_f, ↓nthW_cons, Nat.zero_add, Nat.reduceSub, ↓z_callb, ↓z_evL_cons, ↓z_evL_nil, ↓z_len, ↓z_ln_sl, ↓z_binOp, ↓z_bn_lss, ↓z_ops_nil, ↓z_seq_nrm, ↓z_cond, ↓z_cnd, ↓z_gdt, hlt, ↓z_skip, ↓z_block, ↓z_indexAddr, ↓z_elTy_sl, ↓y_sz26, ↓z_ix_sl, ↓y_ty26, ↓z_agTy_st, ↓loadW_rop, ↓z_rd_t, hl2, ↓hsub, ↓z_alloc, ↓y_zr26, ↓z_new, ↓z_nm_cons, ↓z_nmC_cons, ↓z_mn'_int, ↓z_mn'_nils, ↓z_nmC_nil, and_self, ↓z_mn'_sl, ↓z_nm_nil, ↓z_pg_cons, ↓z_mn_agg, ↓z_mn_rop, ↓z_mn_int, ↓z_mn_sl, ↓z_mn_ptr, ↓z_mn_bool, ↓z_pg_nil, ↓z_store, ↓z_cl_agg, List.length_cons, List.length_nil, Nat.reduceAdd, ↓z_store_ptr, Nat.reduceLeDiff, ↓spsW_cons, ↓drW_cons, ↓drW_nil, ↓z_cat_nil_r, ↓z_so_cons, ↓z_put_none, ↓y_fl26x3, ↓y_sz3, ↓y_ty3, ↓z_agTy_int, ↓z_bn_geq, ↓z_ops_guard, ↓z_grd, ↓z_dst_s, ↓z_dst_0, ↓z_grdD_b, ↓z_gtt, ↓z_pick, ↓z_pick_b, ↓y_fl26x0, ↓z_bn_eql, ↓z_gdf, ↓z_gnf, ↓z_gft, ↓z_gnt, ↓z_gff, ↓evW_const, ↓constW_bool, ↓y_fl56x1, ↓y_sz54, ↓y_ty54, ↓z_buildSlice, ↓z_slTy, Nat.mul_one, maxLen_lit, ↓y_zr3, ↓z_repL_s, ↓z_repL_0, ↓z_bld_cons, ↓z_cl_int, ↓z_bld_nil, ↓z_allP_cons, ↓z_isP_int, ↓z_allP_nil, ↓z_append, ↓z_nint_sl, ↓y_by3, ↓z_src_slx, ↓z_app_nils, ↓z_room, Nat.reduceMul, ↓z_mn_slx, ↓z_mn_nils, ↓z_mn_tup, ↓z_cl_osl, ↓catW_cons, ↓catW_nil, ↓z_blk_nrm, ↓constW_int, inR_i64, Int.reduceNeg, Int.reduceLE, ↓z_bn_add, ↓wrW_i64, ↓z_assign, ↓z_lp_nrm, Bool.not_false, true_and, ↓y_fl26x1, z_ite, ↓z_gtf, ↓z_grdD_u, Bool.not_true]); (try simp only [Int.toNat_natCast])
        repeat' (first | omega | (refine ⟨by omega, i + 1, by omega, by omega, ?_⟩; rw [hs, stT_s (by simp)]; (simp -dsimp only [↓z_wk, ↓z_wkE_cons, ↓lkW_cons, ↓reduceIte, D.int.injEq, true_and, Nat.reduceEqDiff, ↓z_wkE_nil, and_self, and_true, ↓z_wkO_cons, ↓lkoW_cons, List.nil_append, List.length_cons, List.length_nil, Nat.zero_add, reduceCtorEq, ↓z_wkO_nil]); (try simp only [Int.toNat_natCast, Nat.mul_one, Bool.or_false, Bool.false_or, Bool.or_self, Bool.or_true]); try simp) | (intro _) | (apply And.intro))
      · rw [stT_s e0]
        (simp -dsimp only [↓z_seq, ↓z_region, ↓z_ops_plain, ↓z_move, ↓evW_tmp, ↓lkW_cons, ↓reduceIte, ↓z_put, Nat.reduceLT, ↓z_fieldAddr, Nat.reduceEqDiff, ↓y_fl24x1, ↓y_sz22, ne_eq, reduceCtorEq, not_false_eq_true, ↓z_fa_ptr, ↓z_load, ↓y_ty22, ↓z_agTy_sl, ↓loadW_ptr, ↓lkoW_cons, ↓z_rd_f, ↓nthW_cons, Nat.zero_add, Nat.reduceSub, ↓z_callb, ↓z_evL_cons, ↓z_evL_nil, ↓z_len, ↓z_ln_sl, ↓z_binOp, ↓z_bn_lss, ↓z_ops_nil, ↓z_seq_nrm, ↓z_cond, ↓z_cnd, ↓z_gdt, hlt, ↓z_skip, ↓z_block, ↓z_indexAddr, ↓z_elTy_sl, ↓y_sz26, ↓z_ix_sl, ↓y_ty26, ↓z_agTy_st, ↓loadW_rop, ↓z_rd_t, hl2, ↓hsub, ↓z_alloc, ↓y_zr26, ↓z_new, ↓z_nm_cons, ↓z_nmC_int, ↓z_nmC_cons, ↓z_mn'_int, ↓z_mn'_osl, ↓z_nmC_nil, and_self, ↓z_mn'_nils, ↓z_mn'_sl, ↓z_nm_nil, ↓z_pg_cons, ↓z_mn_agg, ↓z_mn_rop, ↓z_mn_int, ↓z_mn_sl, ↓z_mn_ptr, ↓z_mn_bool, ↓z_pg_nil, ↓z_store, ↓z_cl_agg, List.length_cons, List.length_nil, Nat.reduceAdd, ↓z_store_ptr, Nat.reduceLeDiff, ↓spsW_cons, ↓drW_cons, ↓drW_nil, ↓z_cat_nil_r, ↓z_so_cons, ↓z_put_none, ↓y_fl26x3, ↓y_sz3, ↓y_ty3, ↓z_agTy_int, ↓z_bn_geq, ↓z_ops_guard, ↓z_grd, ↓z_dst_s, ↓z_dst_0, ↓z_grdD_b, ↓z_gtt, ↓z_pick, ↓z_pick_b, ↓y_fl26x0, ↓z_bn_eql, ↓z_gdf, ↓z_gnf, ↓z_gft, ↓z_gnt, ↓z_gff, ↓evW_const, ↓constW_bool, ↓y_fl56x1, ↓y_sz54, ↓y_ty54, ↓z_buildSlice, ↓z_slTy, Nat.mul_one, maxLen_lit, ↓y_zr3, ↓z_repL_s, ↓z_repL_0, ↓z_bld_cons, ↓z_cl_int, ↓z_bld_nil, ↓z_allP_cons, ↓z_isP_int, ↓z_allP_nil, ↓z_append, ↓z_nint_sl, ↓y_by3, ↓z_src_slx, ↓z_app_osl, List.length_map, ↓z_room, ↓z_pgo_cons, ↓z_pgc_nm, ↓z_pgc_cons, ↓z_mn_osl, ↓z_pgo_nil, ↓z_mn_slx, ↓z_mn_tup, ↓z_cl_osl, ↓catW_cons, ↓catW_nil, ↓z_blk_nrm, ↓constW_int, inR_i64, Int.reduceNeg, Int.reduceLE, ↓z_bn_add, ↓wrW_i64, ↓z_assign, ↓z_lp_nrm, Bool.not_false, true_and, ↓y_fl26x1, z_ite, ↓z_gtf, ↓z_grdD_u, Bool.not_true]); (try simp only [Int.toNat_natCast])
        repeat' (first | omega | (refine ⟨by omega, i + 1, by omega, by omega, ?_⟩; rw [hs, stT_s (by simp)]; (simp -dsimp only [↓z_wk, ↓z_wkE_cons, ↓lkW_cons, ↓reduceIte, D.int.injEq, true_and, Nat.reduceEqDiff, ↓z_wkE_nil, and_self, and_true, ↓z_wkO_cons, ↓lkoW_cons, List.length_append, List.length_cons, List.length_nil, Nat.zero_add, reduceCtorEq, ↓z_wkO_nil]); (try simp only [Int.toNat_natCast, Nat.mul_one, Bool.or_false, Bool.false_or, Bool.or_self, Bool.or_true]); try simp) | (intro _) | (apply And.intro))
    · rw [if_neg g, List.append_nil] at hs
      by_cases e0 : lnR x f t ps i = []
      · rw [e0] at hs ⊢
        rw [stT_0]
        (simp -dsimp only [↓z_seq, ↓z_region, ↓z_ops_plain, ↓z_move, ↓evW_tmp, ↓lkW_cons, ↓reduceIte, ↓z_put, Nat.reduceLT, ↓z_fieldAddr, Nat.reduceEqDiff, ↓y_fl24x1, ↓y_sz22, ne_eq, reduceCtorEq, not_false_eq_true, ↓z_fa_ptr, ↓z_load, ↓y_ty22, ↓z_agTy_sl, ↓loadW_ptr, ↓lkoW_cons, ↓z_rd_f, ↓nthW_cons, Nat.zero_add, Nat.reduceSub, ↓z_callb, ↓z_evL_cons, ↓z_evL_nil, ↓z_len, ↓z_ln_sl, ↓z_binOp, ↓z_bn_lss, ↓z_ops_nil, ↓z_seq_nrm, ↓z_cond, ↓z_cnd, ↓z_gdt, hlt, ↓z_skip, ↓z_block, ↓z_indexAddr, ↓z_elTy_sl, ↓y_sz26, ↓z_ix_sl, ↓y_ty26, ↓z_agTy_st, ↓loadW_rop, ↓z_rd_t, hl2, ↓hsub, ↓z_alloc, ↓y_zr26, ↓z_new, ↓z_nm_cons, ↓z_nmC_cons, ↓z_mn'_int, ↓z_mn'_nils, ↓z_nmC_nil, and_self, ↓z_mn'_sl, ↓z_nm_nil, ↓z_pg_cons, ↓z_mn_agg, ↓z_mn_rop, ↓z_mn_int, ↓z_mn_sl, ↓z_mn_ptr, ↓z_mn_bool, ↓z_pg_nil, ↓z_store, ↓z_cl_agg, List.length_cons, List.length_nil, Nat.reduceAdd, ↓z_store_ptr, Nat.reduceLeDiff, ↓spsW_cons, ↓drW_cons, ↓drW_nil, ↓z_cat_nil_r, ↓z_so_cons, ↓z_put_none, ↓y_fl26x3, ↓y_sz3, ↓y_ty3, ↓z_agTy_int, ↓z_bn_geq, ↓z_ops_guard, ↓z_grd, ↓z_dst_s, ↓z_dst_0, ↓z_grdD_b, ↓z_gtt, ↓z_pick, ↓z_pick_b, ↓y_fl26x0, ↓z_bn_eql, ↓z_gdf, ↓z_gnf, ↓z_gft, ↓z_gnt, ↓z_gff, ↓evW_const, ↓constW_bool, ↓y_fl56x1, ↓y_sz54, ↓y_ty54, ↓z_buildSlice, ↓z_slTy, Nat.mul_one, maxLen_lit, ↓y_zr3, ↓z_repL_s, ↓z_repL_0, ↓z_bld_cons, ↓z_cl_int, ↓z_bld_nil, ↓z_allP_cons, ↓z_isP_int, ↓z_allP_nil, ↓z_append, ↓z_nint_sl, ↓y_by3, ↓z_src_slx, ↓z_app_nils, ↓z_room, Nat.reduceMul, ↓z_mn_slx, ↓z_mn_nils, ↓z_mn_tup, ↓z_cl_osl, ↓catW_cons, ↓catW_nil, ↓z_blk_nrm, ↓constW_int, inR_i64, Int.reduceNeg, Int.reduceLE, ↓z_bn_add, ↓wrW_i64, ↓z_assign, ↓z_lp_nrm, Bool.not_false, true_and, ↓y_fl26x1, z_ite, ↓z_gtf, ↓z_grdD_u, Bool.not_true]); (try simp only [Int.toNat_natCast])
        repeat' (first | omega | (refine ⟨by omega, i + 1, by omega, by omega, ?_⟩; rw [hs, stT_0]; (simp -dsimp only [↓z_wk, ↓z_wkE_cons, ↓lkW_cons, ↓reduceIte, D.int.injEq, true_and, Nat.reduceEqDiff, ↓z_wkE_nil, and_self, and_true, ↓z_wkO_cons, ↓lkoW_cons, reduceCtorEq, ↓z_wkO_nil]); (try simp only [Int.toNat_natCast, Nat.mul_one, Bool.or_false, Bool.false_or, Bool.or_self, Bool.or_true]); try simp) | (intro _) | (apply And.intro))
      · rw [stT_s e0]
        (simp -dsimp only [↓z_seq, ↓z_region, ↓z_ops_plain, ↓z_move, ↓evW_tmp, ↓lkW_cons, ↓reduceIte, ↓z_put, Nat.reduceLT, ↓z_fieldAddr, Nat.reduceEqDiff, ↓y_fl24x1, ↓y_sz22, ne_eq, reduceCtorEq, not_false_eq_true, ↓z_fa_ptr, ↓z_load, ↓y_ty22, ↓z_agTy_sl, ↓loadW_ptr, ↓lkoW_cons, ↓z_rd_f, ↓nthW_cons, Nat.zero_add, Nat.reduceSub, ↓z_callb, ↓z_evL_cons, ↓z_evL_nil, ↓z_len, ↓z_ln_sl, ↓z_binOp, ↓z_bn_lss, ↓z_ops_nil, ↓z_seq_nrm, ↓z_cond, ↓z_cnd, ↓z_gdt, hlt, ↓z_skip, ↓z_block, ↓z_indexAddr, ↓z_elTy_sl, ↓y_sz26, ↓z_ix_sl, ↓y_ty26, ↓z_agTy_st, ↓loadW_rop, ↓z_rd_t, hl2, ↓hsub, ↓z_alloc, ↓y_zr26, ↓z_new, ↓z_nm_cons, ↓z_nmC_int, ↓z_nmC_cons, ↓z_mn'_int, ↓z_mn'_osl, ↓z_nmC_nil, and_self, ↓z_mn'_nils, ↓z_mn'_sl, ↓z_nm_nil, ↓z_pg_cons, ↓z_mn_agg, ↓z_mn_rop, ↓z_mn_int, ↓z_mn_sl, ↓z_mn_ptr, ↓z_mn_bool, ↓z_pg_nil, ↓z_store, ↓z_cl_agg, List.length_cons, List.length_nil, Nat.reduceAdd, ↓z_store_ptr, Nat.reduceLeDiff, ↓spsW_cons, ↓drW_cons, ↓drW_nil, ↓z_cat_nil_r, ↓z_so_cons, ↓z_put_none, ↓y_fl26x3, ↓y_sz3, ↓y_ty3, ↓z_agTy_int, ↓z_bn_geq, ↓z_ops_guard, ↓z_grd, ↓z_dst_s, ↓z_dst_0, ↓z_grdD_b, ↓z_gtt, ↓z_pick, ↓z_pick_b, ↓y_fl26x0, ↓z_bn_eql, ↓z_gdf, ↓z_gnf, ↓z_gft, ↓z_gnt, ↓z_gff, ↓evW_const, ↓constW_bool, ↓y_fl56x1, ↓y_sz54, ↓y_ty54, ↓z_buildSlice, ↓z_slTy, Nat.mul_one, maxLen_lit, ↓y_zr3, ↓z_repL_s, ↓z_repL_0, ↓z_bld_cons, ↓z_cl_int, ↓z_bld_nil, ↓z_allP_cons, ↓z_isP_int, ↓z_allP_nil, ↓z_append, ↓z_nint_sl, ↓y_by3, ↓z_src_slx, ↓z_app_osl, List.length_map, ↓z_room, ↓z_pgo_cons, ↓z_pgc_nm, ↓z_pgc_cons, ↓z_mn_osl, ↓z_pgo_nil, ↓z_mn_slx, ↓z_mn_tup, ↓z_cl_osl, ↓catW_cons, ↓catW_nil, ↓z_blk_nrm, ↓constW_int, inR_i64, Int.reduceNeg, Int.reduceLE, ↓z_bn_add, ↓wrW_i64, ↓z_assign, ↓z_lp_nrm, Bool.not_false, true_and, ↓y_fl26x1, z_ite, ↓z_gtf, ↓z_grdD_u, Bool.not_true]); (try simp only [Int.toNat_natCast])
        repeat' (first | omega | (refine ⟨by omega, i + 1, by omega, by omega, ?_⟩; rw [hs, stT_s e0]; (simp -dsimp only [↓z_wk, ↓z_wkE_cons, ↓lkW_cons, ↓reduceIte, D.int.injEq, true_and, Nat.reduceEqDiff, ↓z_wkE_nil, and_self, and_true, ↓z_wkO_cons, ↓lkoW_cons, reduceCtorEq, ↓z_wkO_nil]); (try simp only [Int.toNat_natCast, Nat.mul_one, Bool.or_false, Bool.false_or, Bool.or_self, Bool.or_true]); try simp) | (intro _) | (apply And.intro))
  · have hlt : ((i : Int) < (ps.length : Int)) = False := eq_false (by omega)
    have hend : lnR x f t ps i = lnZ x f t ps := by unfold lnR; rw [List.take_of_length_le (by omega)]
    rw [hend]
    by_cases e0 : lnZ x f t ps = []
    · rw [e0, stT_0]
      (simp -dsimp only [↓z_seq, ↓z_region, ↓z_ops_plain, ↓z_move, ↓evW_tmp, ↓lkW_cons, ↓reduceIte, ↓z_put, Nat.reduceLT, ↓z_fieldAddr, Nat.reduceEqDiff, ↓y_fl24x1, ↓y_sz22, ne_eq, reduceCtorEq, not_false_eq_true, ↓z_fa_ptr, ↓z_load, ↓y_ty22, ↓z_agTy_sl, ↓loadW_ptr, ↓lkoW_cons, ↓z_rd_f, ↓nthW_cons, Nat.zero_add, Nat.reduceSub, ↓z_callb, ↓z_evL_cons, ↓z_evL_nil, ↓z_len, ↓z_ln_sl, ↓z_binOp, ↓z_bn_lss, ↓z_ops_nil, ↓z_seq_nrm, ↓z_cond, ↓z_cnd, ↓z_gdt, hlt, ↓z_exit, ↓z_seq_ext, ↓z_lp_ext, ↓z_blk_ext, ↓y_ty56, ↓y_sz56, ↓z_agTy_st, ↓z_rd_t, List.length_cons, List.length_nil, Nat.reduceAdd, Nat.reduceLeDiff, ↓z_sub_c, ↓z_sub_nil, ↓z_build, ↓y_ty60, ↓z_blTy_st, ↓y_zr60, ↓z_bld_cons, ↓y_fl60x0, ↓z_cl_oag, ↓spsW_cons, ↓drW_cons, ↓catW_cons, ↓catW_nil, ↓z_bld_nil, ↓z_store, ↓y_sz60, ↓z_store_ptr, ↓drW_nil, ↓z_cat_nil_r, ↓z_so_cons, ↓z_put_none, ↓z_ret, ↓z_end_rt, resLW, res1W, ↓z_frL_cons, ↓z_frL_nil, and_true, ↓z_coeL_cons, ↓z_coeL_nil, ↓z_pack1, ↓z_fr_oag, ↓z_frSL_cons, ↓z_frS_int, ↓z_frS_nils, ↓z_frSL_nil, and_self, ↓z_coe_oag, ↓z_coeC_cons, ↓z_coeS_int, ↓z_coeS_nils, ↓z_coeC_nil, D.agg.injEq, List.cons.injEq, D.int.injEq, true_and]); (try simp only [Int.toNat_natCast, Nat.mul_one, Bool.or_false, Bool.false_or, Bool.or_self, Bool.or_true])
      exact ⟨by rfl, rfl, c0.symm⟩
    · rw [stT_s e0]
      (simp -dsimp only [↓z_seq, ↓z_region, ↓z_ops_plain, ↓z_move, ↓evW_tmp, ↓lkW_cons, ↓reduceIte, ↓z_put, Nat.reduceLT, ↓z_fieldAddr, Nat.reduceEqDiff, ↓y_fl24x1, ↓y_sz22, ne_eq, reduceCtorEq, not_false_eq_true, ↓z_fa_ptr, ↓z_load, ↓y_ty22, ↓z_agTy_sl, ↓loadW_ptr, ↓lkoW_cons, ↓z_rd_f, ↓nthW_cons, Nat.zero_add, Nat.reduceSub, ↓z_callb, ↓z_evL_cons, ↓z_evL_nil, ↓z_len, ↓z_ln_sl, ↓z_binOp, ↓z_bn_lss, ↓z_ops_nil, ↓z_seq_nrm, ↓z_cond, ↓z_cnd, ↓z_gdt, hlt, ↓z_exit, ↓z_seq_ext, ↓z_lp_ext, ↓z_blk_ext, ↓y_ty56, ↓y_sz56, ↓z_agTy_st, ↓z_rd_t, List.length_cons, List.length_nil, Nat.reduceAdd, Nat.reduceLeDiff, ↓z_sub_c, ↓z_sub_nil, ↓z_build, ↓y_ty60, ↓z_blTy_st, ↓y_zr60, ↓z_bld_cons, ↓y_fl60x0, ↓z_cl_oag, ↓spsW_cons, ↓drW_cons, ↓catW_cons, ↓catW_nil, ↓z_bld_nil, ↓z_store, ↓y_sz60, ↓z_store_ptr, ↓drW_nil, ↓z_cat_nil_r, ↓z_so_cons, ↓z_put_none, ↓z_ret, ↓z_end_rt, resLW, res1W, ↓z_frL_cons, ↓z_frL_nil, and_true, ↓z_coeL_cons, ↓z_coeL_nil, ↓z_pack1, ↓z_fr_oag, ↓z_frSL_cons, ↓z_frS_int, ↓z_frS_osl, ↓z_frC_ints, ↓z_frSL_nil, and_self, ↓z_coe_oag, ↓z_coeC_cons, ↓z_coeS_int, ↓z_coeS_osl, ↓z_allP_int, List.length_map, Nat.mul_one, ↓z_coeC_nil, D.agg.injEq, List.cons.injEq, D.int.injEq, true_and]); (try simp only [Int.toNat_natCast, Nat.mul_one, Bool.or_false, Bool.false_or, Bool.or_self, Bool.or_true])
      exact ⟨by rfl, by unfold slQ; rw [if_neg e0], c0.symm⟩
end Go.Abs

