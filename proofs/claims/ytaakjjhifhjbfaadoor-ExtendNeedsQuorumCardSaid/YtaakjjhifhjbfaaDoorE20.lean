/-
  EXTEND, nineteenth walks: the law about the quorum.
-/
import Derived.Test.YtaakjjhifhjbfaaDoorE17
namespace Go.Abs
open Go.Proofs
/-- A try to vote. -/
structure Tr where
  h : Int
  la : Int
  y : Bool
  f : Int
def trC (x : Tr) : List D := [.int .i64 x.h, .int .u8 x.la, .bool x.y, .int .u8 x.f]
theorem tr_len1 (x : Tr) : (trC x).length = 4 := rfl
theorem tr_len (l : List Tr) : (List.flatMap trC l).length = l.length * 4 := fm_len tr_len1 l
theorem nth_tr0 (l : List Tr) (j : Nat) (k : D → Prop) : nthW (List.flatMap trC l) (j * 4 + 0) k = ∃ h : j < l.length, k (.int .i64 l[j].h) := fm_nth tr_len1 l j 0 (by decide) (fun x => .int .i64 x.h) (fun _ => rfl) k
theorem nth_tr1 (l : List Tr) (j : Nat) (k : D → Prop) : nthW (List.flatMap trC l) (j * 4 + 1) k = ∃ h : j < l.length, k (.int .u8 l[j].la) := fm_nth tr_len1 l j 1 (by decide) (fun x => .int .u8 x.la) (fun _ => rfl) k
theorem nth_tr2 (l : List Tr) (j : Nat) (k : D → Prop) : nthW (List.flatMap trC l) (j * 4 + 2) k = ∃ h : j < l.length, k (.bool l[j].y) := fm_nth tr_len1 l j 2 (by decide) (fun x => .bool x.y) (fun _ => rfl) k
theorem nth_tr3 (l : List Tr) (j : Nat) (k : D → Prop) : nthW (List.flatMap trC l) (j * 4 + 3) k = ∃ h : j < l.length, k (.int .u8 l[j].f) := fm_nth tr_len1 l j 3 (by decide) (fun x => .int .u8 x.f) (fun _ => rfl) k
/-- Where the tries have come. -/
structure QS where
  k : Nat
  t : Int
  m : Pl
  vo : List Bool
  ye : Int
theorem tri_0 {c : Cn} {last U T0 : Int} (hc : okC c) (h : frmP c ⟨7, last, U, T0, []⟩) : Tri c last U T0 T0 ⟨7, last, U, T0, []⟩ (List.replicate 12 false) 0 :=
  ⟨rgt_open hc h, rfl, rfl, rfl, rfl, Int.le_refl _, fun x hx => by simp at hx, rfl, fun i hi => by
    show (List.replicate 12 false).getD i false = false
    rw [List.getD_eq_getElem?_getD, List.getElem?_replicate, if_pos hi]; rfl, rfl⟩
theorem flip_ne : ∀ (x : Fin 256) (k : Fin 8), 0 ≤ bits .xor .u8 (x : Nat) (shlI .u8 1 (k : Nat)) ∧ bits .xor .u8 (x : Nat) (shlI .u8 1 (k : Nat)) < 256 ∧ bits .xor .u8 (x : Nat) (shlI .u8 1 (k : Nat)) ≠ ((x : Nat) : Int) := by decide +kernel
theorem flipV (x : UInt8) {k : Int} (h0 : 0 ≤ k) (h1 : k < 8) : ∃ b : UInt8, bits .xor .u8 (x.toNat : Nat) (shlI .u8 1 k) = ((b.toNat : Nat) : Int) ∧ b ≠ x := by
  obtain ⟨g1, g2, g3⟩ := flip_ne ⟨x.toNat, x.toNat_lt⟩ ⟨k.toNat, by omega⟩
  simp only [show ((k.toNat : Nat) : Int) = k by omega] at g1 g2 g3
  refine ⟨UInt8.ofNat (bits .xor .u8 (x.toNat : Nat) (shlI .u8 1 k)).toNat, ?_, fun e => g3 ?_⟩
  · rw [UInt8.toNat_ofNat_of_lt' (by show _ < 256; omega)]; omega
  · have e2 := congrArg UInt8.toNat e
    rw [UInt8.toNat_ofNat_of_lt' (by show _ < 256; omega)] at e2; omega
theorem flipB {a b c : D} {s : List UInt8} {j : Nat} (v : UInt8) (hj : j < s.length) : List.take (3 + j) (a :: b :: c :: s.map bD) ++ [bD v] ++ List.drop (3 + j + 1) (a :: b :: c :: s.map bD) = a :: b :: c :: (s.set j v).map bD := by
  have e1 : List.take (3 + j) (a :: b :: c :: s.map bD) = a :: b :: c :: (s.map bD).take j := by rw [Nat.add_comm]; rfl
  have e2 : List.drop (3 + j + 1) (a :: b :: c :: s.map bD) = (s.map bD).drop (j + 1) := by rw [show 3 + j + 1 = (j + 1) + 3 by omega]; rfl
  rw [e1, e2, List.map_set, List.set_eq_take_append_cons_drop, if_pos (by simpa using hj)]
  simp
theorem merge1 {α : Type} (R : α → Prop) {X : α → Prop} {A : Prop} (x : ∀ a, R a → X a) (h : (∀ a, R a → X a) → A) : A := h x
set_option maxRecDepth 100000 in
set_option maxHeartbeats 900000 in
theorem fn_LawQ (c : Cn) (last more : Int) (ts : List Tr) (after : Int) : Fn GH Tryd.prog 7 [.agg (cnC c), .int .u16 last, .int .u16 more, .sl 4 ts.length (List.flatMap trC ts), .int .u8 after] (.bool true) := by
  have hF := fn_Few GH c
  have hC := fn_Check GH c
  unfold cnC at *
  refine Fn.mk (c := _) Tryd.func7 rfl rfl Tryd.ntmps7 Tryd.results7 ?_
  (simp -dsimp only [bodyW, List.length_cons, List.length_nil, Nat.zero_add, Nat.reduceAdd, Nat.reduceLeDiff, wfL, ↓z_seq, ↓z_region, ↓z_ops_plain, ↓z_box, ↓evW_tmp, ↓z_lk_env, ↓reduceIte, ↓z_cl_agg, ↓z_nmC_cons, ↓z_mn'_sl, ↓z_mn'_int, ↓z_nmC_nil, and_self, ↓z_new, ↓z_nm_nil, Nat.reduceLT, ↓z_pg_env, ↓z_mn_agg, ↓z_mn_int, ↓z_mn_sl, ↓z_pg_env0, ↓z_put, ↓z_assign, ↓evW_const, ↓constW_bool, ↓z_ops_nil, ↓z_seq_nrm, ↓z_callv, ↓evW_func, ↓z_evL_nil, ↓z_fun0, ↓z_coeL_nil, true_and])
  intro _ w1 w2 w3 w4
  refine call_fnL fn_sanity rfl fun _ => ?_
  (simp -dsimp only [↓z_put, Nat.reduceLT, ↓z_ops_plain, ↓z_assign, ↓evW_tmp, ↓lkW_cons, ↓reduceIte, ↓z_ops_nil, ↓z_seq_nrm, ↓z_seq, ↓z_region, ↓z_move, ↓z_unOp, ↓z_un_not, ↓z_ops_guard, ↓z_grd, ↓z_dst_s, ↓z_dst_0, ↓z_grdD_b, ↓z_gnf, ↓z_gtt, ↓z_load, Nat.reduceEqDiff, ↓y_ty25, ↓y_sz25, ↓z_agTy_st, ↓loadW_ptr, ↓lkoW_cons, ↓z_rd_t, Nat.zero_add, List.length_cons, List.length_nil, Nat.reduceAdd, Nat.reduceLeDiff, ↓z_sub_c, ↓z_sub_nil, ↓z_gff, ↓z_callv, ↓evW_func, ↓z_evL_cons, ↓z_evL_nil, ↓z_fun0, ↓z_coeL_cons, ↓z_coe_oag, ↓z_coeC_cons, ↓z_coeS_sl, ↓z_coeS_int, ↓z_coeC_nil, ↓z_coeL_nil, true_and])
  refine call_fnL hF rfl fun _ => ?_
  (simp -dsimp only [↓z_put, Nat.reduceLT, ↓z_ops_guard, ↓z_grd, ↓z_dst_s, ↓z_dst_0, ↓lkW_cons, Nat.reduceEqDiff, ↓reduceIte, ↓z_grdD_b, ↓z_gff, ↓z_unOp, ↓evW_tmp, ↓z_un_not, ↓z_ops_plain, ↓z_pick, ↓z_pick_b, ↓z_gft, ↓z_move, ↓z_gnf, ↓z_gdt, ↓z_load, ↓y_ty25, ↓y_sz25, ↓z_agTy_st, ↓loadW_ptr, ↓lkoW_cons, ↓z_rd_t, Nat.zero_add, List.length_cons, List.length_nil, Nat.reduceAdd, Nat.reduceLeDiff, ↓z_sub_c, ↓z_sub_nil, ↓z_callv, ↓evW_func, ↓z_evL_cons, ↓z_evL_nil, ↓z_fun0, ↓z_coeL_cons, ↓z_coe_oag, ↓z_coeC_cons, ↓z_coeS_sl, ↓z_coeS_int, ↓z_coeC_nil, ↓z_coeL_nil, true_and, ↓z_gnt, ↓evW_const, ↓constW_bool, ↓z_gtf, ↓z_ops_nil, ↓z_seq_nrm, ↓z_cond, ↓z_cnd, ↓z_gtt, ↓z_seq, ↓z_region, ↓z_assign, ↓z_ret, ↓z_seq_rt, ↓z_end_rt, resLW, res1W, Bool.not_false, Bool.not_true, ↓z_pack1, ↓z_coe_bool, and_self, z_ite])
  refine ⟨fun _ => ?_, fun _ => ?_⟩
  rotate_left 1
  · trivial
  refine call_fnL hC rfl fun _ => ?_
  by_cases c0 : chkC c = 0
  rotate_left 1
  · (simp -dsimp only [↓z_put, Nat.reduceLT, ↓z_ops_guard, ↓z_grd, ↓z_dst_s, ↓z_dst_0, ↓lkW_cons, Nat.reduceEqDiff, ↓reduceIte, ↓z_grdD_b, ↓z_gff, ↓z_binOp, ↓evW_tmp, ↓evW_const, ↓constW_int, inR_i64, Int.reduceNeg, Int.reduceLE, and_self, ↓z_bn_neq, ↓z_ops_plain, ↓z_pick, ↓z_pick_b, ↓z_gft, ↓z_move, ↓z_gdf, ne_eq, c0, not_false_eq_true, ↓z_gnf, ↓z_gnt, ↓constW_bool, ↓z_ops_nil, ↓z_seq_nrm, ↓z_cond, ↓z_cnd, ↓z_gtt, ↓z_seq, ↓z_region, ↓z_assign, ↓z_ret, ↓z_seq_rt, ↓z_end_rt, resLW, res1W, Bool.not_false, Bool.not_true, Nat.zero_add, Nat.reduceAdd, ↓z_coeL_cons, ↓z_coeL_nil, ↓z_pack1, ↓z_coe_bool]); (try simp only [Int.toNat_natCast, Nat.mul_one, Bool.or_false, Bool.false_or, Bool.or_self, Bool.or_true])
  have hc : okC c := chkC_0.1 c0
  have hb := hc.1.2.2.2.2.2
  (simp -dsimp only [↓z_put, Nat.reduceLT, ↓z_ops_guard, ↓z_grd, ↓z_dst_s, ↓z_dst_0, ↓lkW_cons, Nat.reduceEqDiff, ↓reduceIte, ↓z_grdD_b, ↓z_gff, ↓z_binOp, ↓evW_tmp, ↓evW_const, ↓constW_int, inR_i64, Int.reduceNeg, Int.reduceLE, and_self, ↓z_bn_neq, ↓z_ops_plain, ↓z_pick, ↓z_pick_b, ↓z_gft, ↓z_move, ↓z_gdf, c0, ne_eq, not_true_eq_false, reduceCtorEq, Nat.zero_add, Nat.reduceAdd, ↓z_callb, ↓z_evL_cons, ↓z_evL_nil, ↓z_len, ↓y_ty75, ↓z_ln_sl, ↓z_bn_gtr, ↓z_ops_nil, ↓z_seq_nrm, ↓z_cond, ↓z_cnd, ↓z_gdt, ↓z_seq, ↓z_region, ↓z_assign, ↓z_ret, ↓z_seq_rt, ↓z_end_rt, resLW, res1W, Bool.not_true, ↓z_coeL_cons, ↓z_coeL_nil, ↓z_pack1, ↓z_coe_bool, ↓z_skip, ↓z_convert, ↓y_ty50, ↓y_ty3, ↓z_cvt_int, ↓z_cv_int, ↓z_cvi_u16_i64, ↓z_bn_add, ↓wrW_i64, ↓z_fieldAddr, ↓y_fl25x3, ↓y_sz3, not_false_eq_true, ↓z_fa_ptr, ↓z_load, ↓z_agTy_int, ↓loadW_ptr, ↓lkoW_cons, ↓z_rd_f, ↓nthW_cons, Nat.reduceSub, ↓z_bn_rem, ↓z_rem_i64, ↓z_bn_quo, ↓z_quo_i64, Int.reduceEq, ↓constW_bool, ↓y_ty25, ↓y_sz25, ↓z_agTy_st, ↓z_rd_t, List.length_cons, List.length_nil, Nat.reduceLeDiff, ↓z_sub_c, ↓z_sub_nil, ↓z_callv, ↓evW_func, ↓z_fun0, ↓z_coe_oag, ↓z_coeC_cons, ↓z_coeS_sl, ↓z_coeS_int, ↓z_coeC_nil, ↓z_coe_int, true_and, z_ite]); (try simp only [Int.toNat_natCast, Nat.mul_one, Bool.or_false, Bool.false_or, Bool.or_self, Bool.or_true])
  have r1 : 0 ≤ last ∧ last ≤ 65535 := w1.1
  have r2 : 0 ≤ more ∧ more ≤ 65535 := w2.1
  have r4 : 0 ≤ after ∧ after ≤ 255 := w4.1
  have t1 : 0 ≤ more.tmod c.bd := Int.tmod_nonneg _ r2.1
  have t2 : more.tmod c.bd < c.bd := Int.tmod_lt_of_pos _ (by omega)
  have t3 : 0 ≤ last.tdiv 2 ∧ last.tdiv 2 ≤ last := by rw [Int.tdiv_eq_ediv_of_nonneg r1.1]; omega
  refine ⟨fun _ => trivial, fun h20 => ⟨by omega, by omega, by omega, by omega, fun _ => trivial, fun hU => ?_⟩⟩
  have hU1 : last < last + 1 + more.tmod c.bd := by omega
  have hU2 : last + 1 + more.tmod c.bd - last ≤ c.bd := by omega
  generalize last + 1 + more.tmod c.bd = U at hU hU1 hU2
  generalize last.tdiv 2 = T0 at t3
  have hfr : frmP c ⟨7, last, U, T0, []⟩ := ⟨show (0 : Int) ≤ 7 by decide, show (7 : Int) ≤ 1099511627776 by decide, t3.1, t3.2, hU1, by show U ≤ 1000000; omega, hU2⟩
  have hO := fn_Open c 7 last U T0
  rw [(op_yes hc hfr).1, (op_yes hc hfr).2] at hO
  unfold cnC plC at hO
  refine call_fn hO fun _ => ?_
  (simp -dsimp only [↓z_put, Nat.reduceLT, ↓z_ops_plain, ↓z_move, ↓evW_tmp, ↓lkW_cons, ↓reduceIte, ↓z_extract, ↓z_ex, ↓nthW_cons, Nat.reduceEqDiff, reduceCtorEq, Nat.reduceSub, ↓z_alloc, ↓y_zr34, ↓z_new, ↓z_nm_cons, ↓z_nmC_cons, ↓z_mn'_sl, ↓z_mn'_int, ↓z_nmC_nil, and_self, ↓z_nm_nil, Nat.zero_add, ↓z_pg_cons, ↓z_mn_int, ↓z_mn_agg, ↓z_mn_tup, ↓z_mn_oag, ↓z_mnL_sl, ↓z_mnL_int, ↓z_mnL_nil, ↓z_mn_bool, ↓z_mn_ptr, ↓z_mn_sl, ↓z_pg_nil, ↓z_store, ↓y_sz34, ↓z_cl_agg, List.length_nil, List.length_cons, Nat.reduceAdd, ↓z_store_ptr, ↓lkoW_cons, Nat.reduceLeDiff, ↓spsW_cons, ↓drW_cons, ↓drW_nil, ↓z_cat_nil_r, ↓z_so_cons, ↓z_put_none, ↓z_assign, ↓z_ops_nil, ↓z_seq_nrm, ↓z_seq, ↓z_region, ↓z_binOp, ↓evW_const, ↓constW_int, inR_i64, Int.reduceNeg, Int.reduceLE, ↓z_bn_neq, ↓z_cond, ↓z_cnd, ↓z_gdt, ne_eq, not_true_eq_false, ↓z_skip, ↓y_zr76, ↓z_block, ↓z_loop, true_and])
  refine hold_intro ⟨[], QS, fun q => ⟨226, 3, [(18, .int .i64 q.k), (17, .int .i64 q.ye), (16, .ptr 2 0), (14, .ptr 1 0), (13, .int .i64 q.t), (12, .int .i64 U), (10, .bool false), (5, .ptr 0 0), (4, .int .u8 after), (3, .sl 4 ts.length (List.flatMap trC ts)), (1, .int .u16 last)],
    [(2, q.vo.map D.bool), (1, [.int .i64 q.m.o, .int .i64 q.m.l, .int .i64 q.m.u, .int .i64 q.m.n, .sl 19 q.m.v.length (List.flatMap blC q.m.v)]), (0, [.sl 1 c.hs.length (c.hs.map (D.int .i64)), .sl 1 c.ss.length (c.ss.map D.str), .int .i64 c.nd, .int .i64 c.bd])]⟩,
    fun q => q.k ≤ ts.length ∧ q.t ≤ last + 255 * q.k ∧ 0 ≤ q.ye ∧ q.ye ≤ q.k ∧ q.m.v.length ≤ q.k ∧ Tri c last U T0 q.t q.m q.vo q.ye, fun q => ts.length - q.k, ?_, ?_⟩
  · (simp -dsimp only [↓z_ad_nil, ↓z_wk, ↓z_wkE_cons, ↓lkW_cons, ↓reduceIte, D.int.injEq, true_and, Nat.reduceEqDiff, Nat.zero_add, Nat.reduceAdd, reduceCtorEq, ↓z_wkE_nil, and_self, and_true, ↓z_wkO_cons, ↓lkoW_cons, List.length_nil, List.cons.injEq, D.sl.injEq, ↓z_wkO_nil]); (try simp only [Int.toNat_natCast, Nat.mul_one, Bool.or_false, Bool.false_or, Bool.or_self, Bool.or_true])
    refine ⟨⟨0, T0, ⟨7, last, U, T0, []⟩, List.replicate 12 false, 0⟩, ⟨Nat.zero_le _, (by show T0 ≤ last + 255 * ((0 : Nat) : Int); omega), Int.le_refl 0, Int.le_refl 0, Nat.le_refl 0, tri_0 hc hfr⟩, ?_⟩
    exact ⟨⟨rfl, rfl, rfl⟩, rfl, rfl, rfl, rfl, rfl, rfl, rfl⟩
  rintro ⟨i, t, m, vo, ye⟩ ⟨hi, ht, hy0, hyi, hmi, hT⟩
  simp only at hi ht hy0 hyi hmi hT
  by_cases h : i < ts.length
  · have hlt : ((i : Int) < ts.length) = True := eq_true (by omega)
    have hl2 := tr_len ts
    (simp -dsimp only [↓z_seq, ↓z_region, ↓z_ops_plain, ↓z_move, ↓evW_tmp, ↓lkW_cons, ↓reduceIte, ↓z_put, Nat.reduceLT, Nat.reduceEqDiff, ↓z_callb, ↓z_evL_cons, ↓z_evL_nil, ↓z_len, ↓y_ty75, ↓z_ln_sl, ↓z_binOp, ↓z_bn_lss, ↓z_ops_nil, ↓z_seq_nrm, ↓z_cond, ↓z_cnd, ↓z_gdt, hlt, ↓z_skip, ↓z_block, ↓z_indexAddr, ↓z_elTy_sl, ↓y_sz78, ↓z_ix_sl, ↓z_fieldAddr, ↓y_fl78x1, ↓y_sz5, ne_eq, reduceCtorEq, not_false_eq_true, ↓z_fa_rop, ↓z_load, ↓y_ty5, ↓z_agTy_int, ↓loadW_rop, ↓z_rd_f, ↓z_convert, ↓y_ty3, ↓z_cvt_int, ↓z_assign, ↓y_fl78x0, ↓y_sz3, ↓z_region_d, ↓y_mix, true_and, nth_tr1, ↓z_cv_int, ↓z_cvi_u8_i64, ↓z_bn_add, ↓wrW_i64, inR_i64, Int.reduceNeg, nth_tr0]); (try simp only [Int.toNat_natCast])
    have hTt := hT.ht
    have w5 := w3.2 (.int .u8 ts[i].la) (List.mem_flatMap.2 ⟨ts[i], List.getElem_mem h, by simp [trC]⟩)
    have w6 := w3.2 (.int .u8 ts[i].f) (List.mem_flatMap.2 ⟨ts[i], List.getElem_mem h, by simp [trC]⟩)
    have r5 : 0 ≤ ts[i].la ∧ ts[i].la ≤ 255 := w5.1
    have r6 : 0 ≤ ts[i].f ∧ ts[i].f ≤ 255 := w6.1
    refine ⟨by omega, h, by omega, by omega, h, ?_⟩
    have hB := fn_ballot c m ts[i].h (t + ts[i].la) ts[i].y
    have ls := slD_len c m ts[i].h (t + ts[i].la) ts[i].y
    rw [bl_eq] at hB
    unfold cnC plC balB at hB
    simp only at hB
    obtain ⟨s, es⟩ : ∃ s, slD c m ts[i].h (t + ts[i].la) ts[i].y = s := ⟨_, rfl⟩
    rw [es] at hB ls
    obtain ⟨B, eB⟩ : ∃ B : List D, .int .i64 ts[i].h :: .int .i64 (t + ts[i].la) :: .bool ts[i].y :: s.map bD = B := ⟨_, rfl⟩
    have lB : B.length = 19 := by rw [← eB]; simp [ls]
    have fB : ∀ d ∈ B, flS d = true := fun d hd => by
      rw [← eB] at hd
      simp only [List.mem_cons, List.mem_map] at hd
      rcases hd with rfl | rfl | rfl | ⟨b, _, rfl⟩ <;> rfl
    have B1 : ∀ id, nmC id B = True := fun id => eq_true fun d hd => by
      have := fB d hd
      cases d <;> first | rfl | (simp [flS] at this)
    have B2 : allP B = True := eq_true fun d hd => flS_isP (fB d hd)
    have B3 : ∀ a, nmRL a B = True := fun a => eq_true fun d hd => nmR_P (flS_isP (fB d hd))
    have B4 : List.take 19 B = B := List.take_of_length_le (by omega)
    rw [eB] at hB
    refine rgn_x 11 [] (by decide +kernel) ?_
    (simp -dsimp only [↓z_nmRE_cons, ↓z_nmR_int, ↓z_nmR_rop, ↓z_nmR_sl, ↓z_nmR_bool, ↓z_nmR_ptr, Nat.reduceLT, Nat.reduceLeDiff, or_false, ↓z_nmRE_nil, and_self, ↓z_nmRO_cons, ↓z_nmRL_cons, ↓z_nmRL_nil, ↓z_nmRO_nil, and_true, true_and, ↓z_splitO_cons, List.not_mem_nil, ↓reduceIte, ↓z_splitO_nil, List.take_succ_cons, List.take_zero, List.drop_succ_cons, List.drop_zero, ↓z_seq, ↓z_region, ↓z_ops_plain, ↓z_move, ↓z_indexAddr, ↓y_ty75, ↓z_elTy_sl, ↓y_sz78, ↓z_fieldAddr, ↓y_fl78x3, ↓y_sz5, ne_eq, reduceCtorEq, not_false_eq_true, ↓z_load, ↓y_ty5, ↓z_agTy_int, ↓z_binOp, ↓evW_const, ↓constW_int, inR_u8, Int.reduceLE, ↓z_ops_nil, ↓z_seq_nrm, ↓z_cond, ↓z_region_d, ↓y_mix, ↓z_skip, ↓y_ty25, ↓y_sz25, ↓z_agTy_st, ↓z_callv, ↓evW_func, ↓z_evL_cons, ↓z_evL_nil, ↓z_fun0, ↓z_coeL_cons, ↓z_coeL_nil, inR_i64, Int.reduceNeg, ↓z_assign, ↓z_lp_nrm, ↓z_convert, ↓y_ty3, ↓z_cvt_int, ↓y_ty34, ↓y_sz34, resLW, res1W, ↓z_pack1, ↓z_store, ↓evW_tmp, ↓y_sz41, ↓z_put_none, ↓z_drx_load, ↓z_drxS, ↓z_grd_none, ↓z_withE, ↓z_rd_tmp, ↓lkW_cons, Nat.reduceEqDiff, ↓z_rd_nil, ↓z_ap_cons, ↓z_ap_nil, ↓z_apO_cons, ↓z_apO_nil, ↓z_or_load, ↓loadW_ptr, ↓lkoW_cons, ↓z_rd_t, Nat.zero_add, List.length_cons, List.length_nil, Nat.reduceAdd, ↓z_sub_c, ↓z_sub_nil, ↓z_exD_all, ↓z_exD_all2, ↓z_exD_eq, ↓z_nmR_oag, ↓z_nmRS_sl, ↓z_nmRS_int, ↓z_nmRS_nil, ↓z_put, ↓z_drxK, ↓z_drx_move, ↓z_or_move, ↓z_drx_indexAddr, ↓z_or_indexAddr, ↓z_ix_sl, ↓z_exD_and, ↓z_drx_fieldAddr, ↓z_or_fieldAddr, ↓y_fl78x2, ↓y_sz4, ↓z_fa_rop, ↓y_ty4, ↓z_agTy_bool, ↓loadW_rop, ↓z_rd_f, nth_tr2, ↓z_exD_ex, ↓z_drx_callv]); (try simp only [Int.toNat_natCast])
    refine ⟨fun d hd => by obtain ⟨b, _, rfl⟩ := List.mem_map.1 hd; exact fun _ _ _ => rfl, by omega, by omega, h, cv_ex ?_⟩
    (simp -dsimp only [↓z_drxA_callv, ↓z_grd_none, ↓z_withE, ↓z_rd_func, ↓z_rd_tmp, ↓lkW_cons, Nat.reduceEqDiff, ↓reduceIte, ↓z_rd_nil]); (try simp only [Int.toNat_natCast, Nat.mul_one, Bool.or_false, Bool.false_or, Bool.or_self, Bool.or_true])
    refine ex_mk (.agg B) (fun E X => by
      (simp -dsimp only [↓z_ap_cons, ↓z_ap_nil, ↓z_apO_cons, ↓z_apO_nil, ↓z_callv, ↓evW_func, ↓z_evL_cons, ↓evW_tmp, ↓lkW_cons, ↓reduceIte, Nat.reduceEqDiff, ↓z_evL_nil, ↓z_fun0, ↓z_coeL_cons, ↓z_coe_oag, ↓z_coeC_cons, ↓z_coeS_sl, ↓z_coeS_int, ↓z_coeC_nil, ↓z_coe_int, ↓z_coe_bool, ↓z_coeL_nil]); (try simp only [Int.toNat_natCast, Nat.mul_one, Bool.or_false, Bool.false_or, Bool.or_self, Bool.or_true])
      exact call_fnL hB fB fun _ => ⟨rfl, rfl⟩) ?_
    (simp -dsimp only [↓z_nmR_agg, ↓z_put, Nat.reduceLT, ↓z_drxK, ↓z_drx_alloc, ↓y_zr41, ↓z_nmRL_cons, ↓z_nmR_int, ↓z_nmR_bool, ↓z_nmRL_nil, and_self, ↓z_drx_nil, ↓z_apO_cons, ↓z_apO_nil, ↓lkW_cons, ↓reduceIte, Nat.reduceEqDiff, ↓z_cl_agg, ↓z_store_ptr, ↓lkoW_cons, Nat.zero_add, List.length_cons, List.length_nil, Nat.reduceAdd, Nat.reduceLeDiff, ↓spsW_cons, ↓drW_cons, reduceCtorEq, Nat.reduceSub, ↓drW_nil, ↓z_cat_nil_r, ↓z_so_cons, ↓evW_tmp, ↓z_ix_sl, ↓z_fa_rop, ↓loadW_rop, ↓z_rd_f, ↓loadW_ptr, ↓z_rd_t, ↓z_sub_c, ↓z_sub_nil, ↓z_coe_oag, ↓z_coeC_cons, ↓z_coeS_sl, ↓z_coeS_int, ↓z_coeC_nil, ↓z_coe_int, true_and, nth_tr3, ↓z_bn_gtr, ↓z_cnd, ↓z_gdt, z_ite]); (try simp only [Int.toNat_natCast])
    apply merge1 (fun B' : List D => ∃ s' : List UInt8, s'.length = 16 ∧ B' = .int .i64 ts[i].h :: .int .i64 (t + ts[i].la) :: .bool ts[i].y :: s'.map bD ∧ (s' = s ↔ ts[i].f = 0))
    rotate_left 1
    · intro key
      refine ⟨lB, by omega, by omega, h, fun hf => ?_, fun hf => ?_⟩
      · have m16 : 0 ≤ ts[i].f % 16 ∧ ts[i].f % 16 < 16 := ⟨Int.emod_nonneg _ (by decide), Int.emod_lt_of_pos _ (by decide)⟩
        have m8 : 0 ≤ ts[i].f % 8 ∧ ts[i].f % 8 < 8 := ⟨Int.emod_nonneg _ (by decide), Int.emod_lt_of_pos _ (by decide)⟩
        have hj : (ts[i].f % 16).toNat < s.length := by omega
        have hN1 : ∀ q : D → Prop, nthW B (3 + (ts[i].f % 16).toNat) q = q (.int .u8 (s[(ts[i].f % 16).toNat].toNat : Nat)) := fun q => nthW_iff (by
          rw [Nat.add_comm, ← eB]
          show (s.map bD)[(ts[i].f % 16).toNat]? = _
          rw [List.getElem?_map, List.getElem?_eq_getElem hj]; rfl)
        refine rgn_d (by decide +kernel) ?_
        (simp -dsimp only [↓z_drw_move, ↓z_drwS, ↓z_grd_none, ↓z_withE, ↓z_rd_tmp, ↓lkW_cons, Nat.reduceEqDiff, ↓reduceIte, ↓z_rd_nil, ↓z_ap_cons, ↓z_ap_nil, ↓z_or_move, ↓z_move, ↓evW_tmp, Nat.reduceAdd, and_true, ↓z_exD_all, ↓z_exD_eq, ↓z_put, Nat.reduceLT, ↓z_drwK, ↓z_drw_indexAddr, ↓z_or_indexAddr, ↓z_indexAddr, ↓y_ty75, ↓z_elTy_sl, ↓y_sz78, ↓z_ix_sl, true_and, ↓z_exD_and, ↓z_drw_fieldAddr, ↓z_or_fieldAddr, ↓z_fieldAddr, ↓y_fl78x3, ↓y_sz5, ne_eq, reduceCtorEq, not_false_eq_true, ↓z_fa_rop, ↓z_drw_load, ↓z_or_load, ↓z_load, ↓y_ty5, ↓z_agTy_int, ↓loadW_rop, ↓z_rd_f, nth_tr3, ↓z_exD_ex, ↓z_drw_binOp, ↓z_rd_const, ↓z_or_binOp, ↓z_binOp, ↓evW_const, ↓constW_int, inR_u8, Int.reduceLE, and_self, ↓z_bn_rem, ↓z_rem_u8, Int.reduceEq, ↓y_fl41x3, ↓y_sz39, ↓z_fa_ptr, Nat.zero_add, ↓y_ty39, ↓z_elTy_arr, ↓z_ix_ptr, Nat.mul_one, ↓loadW_ptr, ↓lkoW_cons]); (try simp only [Int.toNat_natCast])
        refine ⟨by omega, by omega, h, by omega, by omega, exD_mk (.int .u8 (s[(ts[i].f % 16).toNat].toNat : Nat)) ((hN1 _).mpr rfl) ?_⟩
        (simp -dsimp only [↓z_put, Nat.reduceLT, ↓z_drwK, ↓z_drw_move, ↓z_drwS, ↓z_grd_none, ↓z_withE, ↓z_rd_tmp, ↓lkW_cons, Nat.reduceEqDiff, ↓reduceIte, ↓z_rd_nil, ↓z_ap_cons, ↓z_ap_nil, ↓z_or_move, ↓z_move, ↓evW_tmp, Nat.reduceAdd, and_true, ↓z_exD_all, ↓z_exD_eq, ↓z_drw_indexAddr, ↓z_or_indexAddr, ↓z_indexAddr, ↓y_ty75, ↓z_elTy_sl, ↓y_sz78, ↓z_ix_sl, true_and, ↓z_exD_and, ↓z_drw_fieldAddr, ↓z_or_fieldAddr, ↓z_fieldAddr, ↓y_fl78x3, ↓y_sz5, ne_eq, reduceCtorEq, not_false_eq_true, ↓z_fa_rop, ↓z_drw_load, ↓z_or_load, ↓z_load, ↓y_ty5, ↓z_agTy_int, ↓loadW_rop, ↓z_rd_f, nth_tr3, ↓z_exD_ex, ↓z_drw_binOp, ↓z_rd_const, ↓z_or_binOp, ↓z_binOp, ↓evW_const, ↓constW_int, inR_u8, Int.reduceLE, and_self, ↓z_bn_rem, ↓z_rem_u8, Int.reduceEq, ↓z_bn_shl, ↓z_bn_xor, ↓y_fl41x3, ↓y_sz39, ↓z_fa_ptr, Nat.zero_add, ↓y_ty39, ↓z_elTy_arr, ↓z_ix_ptr, Nat.mul_one, ↓z_drw_store, ↓z_ops_plain, ↓z_store, ↓z_cl_int, List.length_cons, List.length_nil, ↓z_store_ptr, ↓lkoW_cons, ↓z_so_cons, ↓z_put_none, ↓z_ops_nil, ↓z_seq_nrm, ↓z_seq, ↓z_region, ↓y_ty25, ↓y_sz25, ↓z_agTy_st, ↓loadW_ptr, ↓z_rd_t, Nat.reduceLeDiff, ↓z_sub_c, ↓z_sub_nil, ↓z_callv, ↓evW_func, ↓z_evL_cons, ↓z_evL_nil, ↓z_fun0, ↓z_coeL_cons, ↓z_coe_oag, ↓z_coeC_cons, ↓z_coeS_sl, ↓z_coeS_int, ↓z_coeC_nil, ↓z_coe_int, ↓z_coeL_nil, z_sps]); (try simp only [Int.toNat_natCast])
        obtain ⟨B', eB'⟩ : ∃ B' : List D, List.take (3 + (ts[i].f % 16).toNat) B ++ [.int .u8 (bits .xor .u8 (s[(ts[i].f % 16).toNat].toNat : Nat) (shlI .u8 1 (ts[i].f % 8)))] ++ List.drop (3 + (ts[i].f % 16).toNat + 1) B = B' := ⟨_, rfl⟩
        refine ⟨by omega, by omega, h, by omega, by omega, by omega, by omega, call_wk ⟨226, 4, [(20, .ptr 3 0), (19, .int .i64 ts[i].h), (18, .int .i64 i), (17, .int .i64 ye), (16, .ptr 2 0), (14, .ptr 1 0), (13, .int .i64 (t + ts[i].la)), (12, .int .i64 U), (10, .bool false), (5, .ptr 0 0), (4, .int .u8 after), (3, .sl 4 ts.length (List.flatMap trC ts)), (1, .int .u16 last)], [(3, B'), (2, vo.map D.bool), (1, [.int .i64 m.o, .int .i64 m.l, .int .i64 m.u, .int .i64 m.n, .sl 19 m.v.length (List.flatMap blC m.v)]), (0, [.sl 1 c.hs.length (c.hs.map (D.int .i64)), .sl 1 c.ss.length (c.ss.map D.str), .int .i64 c.nd, .int .i64 c.bd])]⟩ ?_ (key B' ?_)⟩
        · (simp -dsimp only [↓z_wk, ↓z_wkE_cons, ↓lkW_cons, Nat.reduceEqDiff, ↓reduceIte, ↓z_wkE_nil, and_self, ↓z_wkO_cons, ↓lkoW_cons, reduceCtorEq, ↓z_wkO_nil, and_true, true_and]); (try simp only [Int.toNat_natCast, Nat.mul_one, Bool.or_false, Bool.false_or, Bool.or_self, Bool.or_true])
          exact eB'
        · obtain ⟨v, v1, v2⟩ := flipV s[(ts[i].f % 16).toNat] m8.1 m8.2
          refine ⟨s.set (ts[i].f % 16).toNat v, by rw [List.length_set]; exact ls, ?_, fun e => absurd e (set_ne hj v2), fun e => by omega⟩
          rw [← eB', ← eB, v1]
          exact flipB v hj
      · refine call_wk ⟨226, 4, [(20, .ptr 3 0), (19, .int .i64 ts[i].h), (18, .int .i64 i), (17, .int .i64 ye), (16, .ptr 2 0), (14, .ptr 1 0), (13, .int .i64 (t + ts[i].la)), (12, .int .i64 U), (10, .bool false), (5, .ptr 0 0), (4, .int .u8 after), (3, .sl 4 ts.length (List.flatMap trC ts)), (1, .int .u16 last)], [(3, B), (2, vo.map D.bool), (1, [.int .i64 m.o, .int .i64 m.l, .int .i64 m.u, .int .i64 m.n, .sl 19 m.v.length (List.flatMap blC m.v)]), (0, [.sl 1 c.hs.length (c.hs.map (D.int .i64)), .sl 1 c.ss.length (c.ss.map D.str), .int .i64 c.nd, .int .i64 c.bd])]⟩ ?_ (key B ?_)
        · (simp -dsimp only [↓z_wk, ↓z_wkE_cons, ↓lkW_cons, Nat.reduceEqDiff, ↓reduceIte, ↓z_wkE_nil, and_self, ↓z_wkO_cons, ↓lkoW_cons, reduceCtorEq, ↓z_wkO_nil]); (try simp only [Int.toNat_natCast, Nat.mul_one, Bool.or_false, Bool.false_or, Bool.or_self, Bool.or_true])
        · exact ⟨s, ls, eB.symm, fun _ => by omega, fun _ => rfl⟩
    rintro B' ⟨s', ls', rfl, hs'⟩
    refine call0_fn (fn_Seat GH c ts[i].h) fun _ => ?_
    (simp -dsimp only [↓z_put, Nat.reduceLT, ↓z_ops_plain, ↓z_assign, ↓evW_tmp, ↓lkW_cons, ↓reduceIte, ↓z_ops_nil, ↓z_seq_nrm, ↓z_seq, ↓z_region, ↓z_move, ↓z_binOp, ↓evW_const, ↓constW_int, inR_i64, Int.reduceNeg, Int.reduceLE, and_self, ↓z_bn_geq, ↓z_ops_guard, ↓z_grd, ↓z_dst_s, ↓z_dst_0, ↓z_grdD_b, ↓z_gdt, Nat.reduceEqDiff, ↓z_gtt, ↓z_callb, ↓z_evL_cons, ↓z_evL_nil, ↓z_min, ↓z_mx_min, ↓z_mx_nil, ↓z_max, ↓z_mx_max, ↓z_indexAddr, ↓y_ty76, ↓z_elTy_arr, ↓y_sz4, ↓z_ix_ptr, ↓z_load, ↓y_ty4, ↓z_agTy_bool, ↓loadW_ptr, ↓lkoW_cons, ↓z_rd_f, ↓z_nth_bool, ↓z_unOp, ↓z_un_not, ↓z_pick, ↓z_pick_b, ↓z_gnt, Nat.mul_one, Nat.zero_add, ↓z_convert, ↓y_ty50, ↓y_ty3, ↓z_cvt_int, ↓z_cv_int, ↓z_cvi_u16_i64, ↓z_bn_leq, ↓y_ty75, ↓z_elTy_sl, ↓y_sz78, ↓z_ix_sl, ↓z_fieldAddr, ↓y_fl78x3, ↓y_sz5, ne_eq, reduceCtorEq, not_false_eq_true, ↓z_fa_rop, ↓y_ty5, ↓z_agTy_int, ↓loadW_rop, inR_u8, ↓y_ty25, ↓y_sz25, ↓z_agTy_st, ↓z_rd_t, List.length_cons, List.length_nil, Nat.reduceAdd, Nat.reduceLeDiff, ↓z_sub_c, ↓z_sub_nil, ↓y_ty34, ↓y_sz34, ↓y_ty41, ↓y_sz41, List.length_map, ↓z_sub_map, ↓z_callv, ↓evW_func, ↓z_fun0, ↓z_coeL_cons, ↓z_coe_oag, ↓z_coeC_cons, ↓z_coeS_sl, ↓z_coeS_int, ↓z_coeC_nil, ↓z_coeS_bool, ↓z_coeC_bytes, ↓z_coeL_nil, true_and, nth_tr3, ↓z_bn_eql, ↓z_gtf, ↓constW_bool, z_ite, ↓z_gft, z_gvarf]); (try simp only [Int.toNat_natCast])
    have ed' : List.take 16 (List.drop 0 s') = s' := by rw [List.drop_zero, List.take_of_length_le (by omega)]
    rw [ed']
    have hvl := hT.hvl
    have hseat : 0 ≤ seatI c.hs ts[i].h → 0 ≤ ts[i].h ∧ ts[i].h ≤ 11 := fun g => by
      obtain ⟨j, hj, ej⟩ := List.getElem_of_mem (seat_mem.1 g)
      have := okC_hs hc hj
      rw [getD_at hj, ej] at this
      exact this
    have hvo : ∀ (q : (max 0 (min ts[i].h 11)).toNat < vo.length), 0 ≤ seatI c.hs ts[i].h → vo.getD ts[i].h.toNat false = vo[(max 0 (min ts[i].h 11)).toNat] := fun q g => by
      have := hseat g
      rw [← getD_at (d := false) q]
      congr 1
      omega
    apply merge1 (fun acc : Bool => acc = decide (0 ≤ seatI c.hs ts[i].h ∧ vo.getD ts[i].h.toNat false = false ∧ t + ts[i].la ≤ last ∧ ts[i].f = 0))
    rotate_left 1
    · intro key
      obtain ⟨acc, ea⟩ : ∃ acc : Bool, acc = decide (0 ≤ seatI c.hs ts[i].h ∧ vo.getD ts[i].h.toNat false = false ∧ t + ts[i].la ≤ last ∧ ts[i].f = 0) := ⟨_, rfl⟩
      refine ⟨fun a1 => ⟨by omega, by omega, by omega, fun a2 => ⟨fun a3 => ⟨by omega, by omega, h, by omega, ?_⟩, fun a3 => ⟨by omega, ?_⟩⟩, fun a2 => ⟨by omega, ?_⟩⟩, fun a1 => ⟨by omega, ?_⟩⟩
      all_goals
        refine call_wk ⟨226, 4, [(22, .bool acc), (20, .ptr 3 0), (19, .int .i64 ts[i].h), (18, .int .i64 i), (17, .int .i64 ye), (16, .ptr 2 0), (14, .ptr 1 0), (13, .int .i64 (t + ts[i].la)), (12, .int .i64 U), (10, .bool false), (5, .ptr 0 0), (4, .int .u8 after), (3, .sl 4 ts.length (List.flatMap trC ts)), (1, .int .u16 last)], [(3, (.int .i64 ts[i].h :: .int .i64 (t + ts[i].la) :: .bool ts[i].y :: s'.map bD)), (2, vo.map D.bool), (1, [.int .i64 m.o, .int .i64 m.l, .int .i64 m.u, .int .i64 m.n, .sl 19 m.v.length (List.flatMap blC m.v)]), (0, [.sl 1 c.hs.length (c.hs.map (D.int .i64)), .sl 1 c.ss.length (c.ss.map D.str), .int .i64 c.nd, .int .i64 c.bd])]⟩ ?_ (key acc ea)
        (simp -dsimp only [↓z_wk, ↓z_wkE_cons, ↓lkW_cons, Nat.reduceEqDiff, ↓reduceIte, D.bool.injEq, ↓z_wkE_nil, and_self, and_true, ↓z_wkO_cons, ↓lkoW_cons, reduceCtorEq, ↓z_wkO_nil, true_and]); (try simp only [Int.toNat_natCast, Nat.mul_one, Bool.or_false, Bool.false_or, Bool.or_self, Bool.or_true])
      · rw [ea]; exact decide_eq_decide.2 ⟨fun g => ⟨a1, by rw [hvo (by omega) a1]; simpa using a2, a3, g⟩, fun g => g.2.2.2⟩
      · rw [ea]; exact (decide_eq_false fun g => a3 g.2.2.1).symm
      · rw [ea]; exact (decide_eq_false fun g => by have := g.2.1; rw [hvo (by omega) a1] at this; simp [this] at a2).symm
      · rw [ea]; exact (decide_eq_false fun g => a1 g.1).symm
    intro acc ea
    have hV := fn_Vote c m ⟨ts[i].h, t + ts[i].la, ts[i].y, s', ls'⟩ (by omega)
    have hT' := hT.later (show t ≤ t + ts[i].la by omega)
    have hA : vtE c m ⟨ts[i].h, t + ts[i].la, ts[i].y, s', ls'⟩ = 0 ↔ 0 ≤ seatI c.hs ts[i].h ∧ vo.getD ts[i].h.toNat false = false ∧ t + ts[i].la ≤ last ∧ ts[i].f = 0 := by
      rw [hT'.acc _ rfl]
      show _ ∧ _ ∧ _ ∧ s' = sealD c m ts[i].h (t + ts[i].la) ts[i].y ↔ _
      have sl (g1 : 0 ≤ seatI c.hs ts[i].h) : slD c m ts[i].h (t + ts[i].la) ts[i].y = sealD c m ts[i].h (t + ts[i].la) ts[i].y := if_pos (by unfold slE; rw [if_pos hc, if_neg (by omega)])
      constructor
      · rintro ⟨g1, g2, g3, g4⟩
        exact ⟨g1, g2, g3, hs'.1 (by rw [g4, ← es]; exact (sl g1).symm)⟩
      · rintro ⟨g1, g2, g3, g4⟩
        exact ⟨g1, g2, g3, by rw [hs'.2 g4, ← es]; exact sl g1⟩
    rw [bl_eq] at hV
    by_cases hE : vtE c m ⟨ts[i].h, t + ts[i].la, ts[i].y, s', ls'⟩ = 0
    · have hP : vtP c m ⟨ts[i].h, t + ts[i].la, ts[i].y, s', ls'⟩ = ⟨m.o, m.l, m.u, m.n, m.v ++ [⟨ts[i].h, t + ts[i].la, ts[i].y, s', ls'⟩]⟩ := if_pos hE
      obtain ⟨hT3, q1, q2⟩ := hT'.add _ rfl hE
      rw [hP, hE] at hV
      simp only at hV hT3 q1 q2
      unfold cnC plC at hV
      obtain rfl : acc = true := by rw [ea]; exact decide_eq_true (hA.1 hE)
      refine call0_fn hV fun _ => ?_
      (simp -dsimp only [↓z_put, Nat.reduceLT, ↓z_ops_plain, ↓z_move, ↓evW_tmp, ↓lkW_cons, ↓reduceIte, ↓z_extract, ↓z_ex, ↓nthW_cons, Nat.reduceEqDiff, reduceCtorEq, Nat.reduceSub, ↓z_alloc, ↓y_zr34, ↓z_new, ↓z_nm_cons, ↓z_nmC_cons, ↓z_mn'_int, ↓z_mn'_bool, ↓z_nmC_bytes, and_self, ↓z_nmC_bool, ↓z_mn'_sl, ↓z_nmC_nil, ↓z_nm_nil, ↓z_pg_cons, ↓z_mn_int, ↓z_mn_agg, ↓z_mn_tup, ↓z_mn_bool, ↓z_mn_ptr, ↓z_mn_sl, ↓z_pg_nil, ↓z_store, ↓y_sz34, ↓z_cl_agg, List.length_append, List.length_cons, List.length_nil, Nat.zero_add, Nat.reduceAdd, ↓z_store_ptr, ↓lkoW_cons, Nat.reduceLeDiff, ↓spsW_cons, ↓drW_cons, ↓drW_nil, ↓z_cat_nil_r, ↓z_so_cons, ↓z_put_none, ↓z_assign, ↓z_ops_nil, ↓z_seq_nrm, ↓z_seq, ↓z_region, ↓z_binOp, ↓evW_const, ↓constW_int, inR_i64, Int.reduceNeg, Int.reduceLE, ↓z_bn_eql, ↓z_bn_bneq, ↓y_ty4, ↓z_boolTy, ↓z_ops_guard, ↓z_grd, ↓z_dst_s, ↓z_dst_0, ↓z_grdD_b, ↓z_gdf, ne_eq, decide_eq_true_eq, not_true_eq_false, ↓z_gff, ↓z_unOp, ↓z_un_not, ↓z_gnt, ↓z_gtf, ↓z_pick, ↓z_pick_b, ↓constW_bool, ↓z_gft, ↓z_cond, ↓z_cnd, ↓z_skip, ↓z_gtt, ↓z_indexAddr, ↓y_ty76, ↓z_elTy_arr, ↓y_sz4, ↓z_ix_ptr, ↓z_cl_bool, Nat.mul_one, List.length_map, ↓y_ty75, ↓z_elTy_sl, ↓y_sz78, ↓z_ix_sl, ↓z_fieldAddr, ↓y_fl78x2, not_false_eq_true, ↓z_fa_rop, ↓z_load, ↓z_agTy_bool, ↓loadW_rop, ↓z_rd_f, ↓z_bn_add, ↓wrW_i64, ↓y_ty34, ↓z_agTy_st, ↓loadW_ptr, ↓z_rd_t, ↓z_sub_c, ↓z_sub_nil, ↓z_cl_oag, ↓z_blk_nrm, ↓z_lp_nrm, ↓z_wk, ↓z_wkE_cons, D.int.injEq, true_and, ↓z_wkE_nil, and_true, ↓z_wkO_cons, List.cons.injEq, D.sl.injEq, ↓z_wkO_nil, nth_tr2, z_gvar, z_sps]); (try simp only [Int.toNat_natCast])
      have fin : ∀ ye', (if ts[i].y = true then ye + 1 else ye) = ye' → ye' ≤ ye + 1 → 0 ≤ ye' → ∃ y : QS, (y.k ≤ ts.length ∧ y.t ≤ last + 255 * y.k ∧ 0 ≤ y.ye ∧ y.ye ≤ y.k ∧ y.m.v.length ≤ y.k ∧ Tri c last U T0 y.t y.m y.vo y.ye) ∧ ts.length - y.k < ts.length - i ∧ ((i : Int) + 1 = y.k ∧ ye' = y.ye ∧ t + ts[i].la = y.t) ∧
          List.take ts[i].h.toNat (List.map D.bool vo) ++ [D.bool true] ++ List.drop (ts[i].h.toNat + 1) (List.map D.bool vo) = List.map D.bool y.vo ∧ m.o = y.m.o ∧ m.l = y.m.l ∧ m.u = y.m.u ∧ m.n = y.m.n ∧ m.v.length + 1 = y.m.v.length ∧ List.flatMap blC (m.v ++ [⟨ts[i].h, t + ts[i].la, ts[i].y, s', ls'⟩]) = List.flatMap blC y.m.v := fun ye' e1 e2 e3 => by
        refine ⟨⟨i + 1, t + ts[i].la, ⟨m.o, m.l, m.u, m.n, m.v ++ [⟨ts[i].h, t + ts[i].la, ts[i].y, s', ls'⟩]⟩, vo.set ts[i].h.toNat true, ye'⟩, ⟨h, ?_, e3, ?_, ?_, by rw [e1] at hT3; exact hT3⟩, ?_, ⟨rfl, rfl, rfl⟩, ?_, rfl, rfl, rfl, rfl, by simp, rfl⟩
        · show t + ts[i].la ≤ last + 255 * ((i + 1 : Nat) : Int); omega
        · show ye' ≤ ((i + 1 : Nat) : Int); omega
        · show (m.v ++ [_]).length ≤ i + 1
          simp only [List.length_append, List.length_cons, List.length_nil]; omega
        · show ts.length - (i + 1) < ts.length - i; omega
        · rw [List.map_set, List.set_eq_take_append_cons_drop, if_pos (by rw [List.length_map]; omega)]; simp
      refine ⟨q1, by omega, by omega, by omega, by omega, h, fun hy => ⟨by omega, by omega, ?_⟩, fun hy => ⟨by omega, ?_⟩⟩
      · exact fin _ (by rw [if_pos hy]) (Int.le_refl _) (by omega)
      · exact fin _ (by rw [if_neg (by rw [hy]; decide)]) (by omega) hy0
    · have hP : vtP c m ⟨ts[i].h, t + ts[i].la, ts[i].y, s', ls'⟩ = m := if_neg hE
      rw [hP] at hV
      obtain rfl : acc = false := by rw [ea]; exact decide_eq_false fun g => hE (hA.2 g)
      generalize vtE c m ⟨ts[i].h, t + ts[i].la, ts[i].y, s', ls'⟩ = e at hV hE
      have hSm := fn_Same GH m (by omega)
      unfold cnC plC at hV
      unfold plC at hSm
      simp only at hV
      have hne : (e = 0) = False := eq_false hE
      refine call0_fn hV fun _ => ?_
      (simp -dsimp only [↓z_put, Nat.reduceLT, ↓z_ops_plain, ↓z_move, ↓evW_tmp, ↓lkW_cons, ↓reduceIte, ↓z_extract, ↓z_ex, ↓nthW_cons, Nat.reduceEqDiff, reduceCtorEq, Nat.reduceSub, ↓z_alloc, ↓y_zr34, ↓z_new, ↓z_nm_cons, ↓z_nmC_cons, ↓z_mn'_int, ↓z_mn'_bool, ↓z_nmC_bytes, and_self, ↓z_nmC_bool, ↓z_mn'_sl, ↓z_nmC_nil, ↓z_nm_nil, ↓z_pg_cons, ↓z_mn_int, ↓z_mn_agg, ↓z_mn_tup, ↓z_mn_bool, ↓z_mn_ptr, ↓z_mn_sl, ↓z_pg_nil, ↓z_store, ↓y_sz34, ↓z_cl_agg, List.length_cons, List.length_nil, Nat.zero_add, Nat.reduceAdd, ↓z_store_ptr, ↓lkoW_cons, Nat.reduceLeDiff, ↓spsW_cons, ↓drW_cons, ↓drW_nil, ↓z_cat_nil_r, ↓z_so_cons, ↓z_put_none, ↓z_assign, ↓z_ops_nil, ↓z_seq_nrm, ↓z_seq, ↓z_region, ↓z_binOp, ↓evW_const, ↓constW_int, inR_i64, Int.reduceNeg, Int.reduceLE, ↓z_bn_eql, ↓z_bn_bneq, ↓y_ty4, ↓z_boolTy, ↓z_ops_guard, ↓z_grd, ↓z_dst_s, ↓z_dst_0, ↓z_grdD_b, ↓z_gdf, hne, ne_eq, ↓z_gnf, ↓z_gft, ↓z_grdD_u, ↓z_pick, ↓z_pick_b, ↓z_gnt, ↓z_gff, ↓constW_bool, ↓z_cond, ↓z_cnd, ↓z_gtt, ↓z_ret, ↓z_seq_rt, ↓z_blk_rt, ↓z_lp_rt, ↓z_end_rt, resLW, res1W, Bool.not_false, ↓z_coeL_cons, ↓z_coeL_nil, ↓z_pack1, ↓z_coe_bool, D.bool.injEq, and_false, ↓z_unOp, ↓z_un_not, ↓z_load, ↓y_ty34, ↓z_agTy_st, ↓loadW_ptr, ↓z_rd_t, ↓z_sub_c, ↓z_sub_nil, ↓z_callv, ↓evW_func, ↓z_evL_cons, ↓z_evL_nil, ↓z_fun0, ↓z_coe_oag, ↓z_coeC_cons, ↓z_coeS_int, ↓z_coeS_sl, ↓z_coeC_nil, true_and, z_ite, Classical.not_not])
      refine ⟨fun g => g (by decide), fun _ => ?_⟩
      refine call_fnL hSm rfl fun _ => ?_
      (simp -dsimp only [↓z_put, Nat.reduceLT, ↓z_ops_guard, ↓z_grd, ↓z_dst_s, ↓z_dst_0, ↓lkW_cons, Nat.reduceEqDiff, ↓reduceIte, ↓z_grdD_b, ↓z_gtt, ↓z_unOp, ↓evW_tmp, ↓z_un_not, ↓z_gff, ↓z_pick, ↓z_pick_b, ↓z_ops_plain, ↓z_gft, ↓z_ops_nil, ↓z_seq_nrm, ↓z_cond, ↓z_cnd, ↓z_gnt, ↓z_gtf, ↓z_skip, ↓z_seq, ↓z_region, ↓z_move, ↓z_load, ↓y_ty34, ↓y_sz34, ↓z_agTy_st, ↓loadW_ptr, ↓lkoW_cons, ↓z_rd_t, Nat.zero_add, List.length_cons, List.length_nil, Nat.reduceAdd, Nat.reduceLeDiff, ↓z_sub_c, ↓z_sub_nil, ↓z_store, ↓z_cl_oag, ↓z_store_ptr, ↓spsW_cons, ↓drW_cons, reduceCtorEq, Nat.reduceSub, ↓drW_nil, ↓z_cat_nil_r, ↓z_so_cons, ↓z_put_none, ↓z_blk_nrm, ↓z_binOp, ↓evW_const, ↓constW_int, inR_i64, Int.reduceNeg, Int.reduceLE, and_self, ↓z_bn_add, ↓wrW_i64, ↓z_assign, ↓z_lp_nrm, ↓z_wk, ↓z_wkE_cons, D.int.injEq, true_and, ↓z_wkE_nil, and_true, ↓z_wkO_cons, List.cons.injEq, D.sl.injEq, ↓z_wkO_nil]); (try simp only [Int.toNat_natCast, Nat.mul_one, Bool.or_false, Bool.false_or, Bool.or_self, Bool.or_true])
      refine ⟨by omega, ⟨i + 1, t + ts[i].la, m, vo, ye⟩, ⟨h, ?_, hy0, ?_, ?_, hT'⟩, ?_, ⟨rfl, rfl, rfl⟩, rfl, rfl, rfl, rfl, rfl, rfl, rfl⟩
      · show t + ts[i].la ≤ last + 255 * ((i + 1 : Nat) : Int); omega
      · show ye ≤ ((i + 1 : Nat) : Int); omega
      · show m.v.length ≤ i + 1; omega
      · show ts.length - (i + 1) < ts.length - i; omega
  · have hlt : ((i : Int) < ts.length) = False := eq_false (by omega)
    (simp -dsimp only [↓z_seq, ↓z_region, ↓z_ops_plain, ↓z_move, ↓evW_tmp, ↓lkW_cons, ↓reduceIte, ↓z_put, Nat.reduceLT, Nat.reduceEqDiff, ↓z_callb, ↓z_evL_cons, ↓z_evL_nil, ↓z_len, ↓y_ty75, ↓z_ln_sl, ↓z_binOp, ↓z_bn_lss, ↓z_ops_nil, ↓z_seq_nrm, ↓z_cond, ↓z_cnd, ↓z_gdt, hlt, ↓z_exit, ↓z_seq_ext, ↓z_lp_ext, ↓z_blk_ext, ↓z_convert, ↓y_ty5, ↓y_ty3, ↓z_cvt_int, ↓z_cv_int, ↓z_cvi_u8_i64, ↓z_bn_add, ↓wrW_i64, inR_i64, Int.reduceNeg, ↓z_assign, ↓z_load, ↓y_ty25, ↓y_sz25, ↓z_agTy_st, ↓loadW_ptr, ↓lkoW_cons, reduceCtorEq, ↓z_rd_t, Nat.zero_add, List.length_cons, List.length_nil, Nat.reduceAdd, Nat.reduceLeDiff, ↓z_sub_c, ↓z_sub_nil, ↓y_ty34, ↓y_sz34, ↓z_callv, ↓evW_func, ↓z_fun0, ↓z_coeL_cons, ↓z_coe_oag, ↓z_coeC_cons, ↓z_coeS_sl, ↓z_coeS_int, ↓z_coeC_nil, ↓z_coe_int, ↓z_coeL_nil, true_and])
    have hTt := hT.ht
    have hT2 := hT.later (show t ≤ t + after by omega)
    obtain ⟨d1, d2⟩ := hT2.dec
    have hD := fn_Decide c m (t + after) (by omega)
    unfold cnC plC at hD
    refine ⟨by omega, ?_⟩
    refine call_fnL hD (by intro d hd; simp at hd; rcases hd with rfl | rfl <;> rfl) fun _ => ?_
    (simp -dsimp only [↓z_put, Nat.reduceLT, ↓z_ops_plain, ↓z_move, ↓evW_tmp, ↓lkW_cons, ↓reduceIte, ↓z_extract, ↓z_ex, ↓nthW_cons, Nat.reduceEqDiff, reduceCtorEq, Nat.reduceSub, ↓z_assign, ↓z_ops_nil, ↓z_seq_nrm, ↓z_seq, ↓z_region, ↓z_fieldAddr, ↓y_fl25x2, ↓y_sz3, ne_eq, not_false_eq_true, ↓z_fa_ptr, ↓z_load, ↓y_ty3, ↓z_agTy_int, ↓loadW_ptr, ↓lkoW_cons, ↓z_rd_f, Nat.zero_add, ↓z_binOp, ↓z_bn_geq, ↓z_ops_guard, ↓z_grd, ↓z_dst_s, ↓z_dst_0, ↓z_grdD_b, ↓z_gdt, ↓z_gtt, ↓z_convert, ↓y_ty50, ↓z_cvt_int, ↓z_cv_int, ↓z_cvi_u16_i64, ↓z_bn_leq, ↓z_pick, ↓z_pick_b, ↓evW_const, ↓constW_int, inR_i64, Int.reduceNeg, Int.reduceLE, and_self, ↓z_bn_eql, ↓z_bn_beql, ↓y_ty4, ↓z_boolTy, ↓z_unOp, ↓z_un_not, ↓z_gnf, ↓z_gff, ↓z_gft, ↓z_gdf, ↓z_gnt, ↓constW_bool, ↓z_ret, ↓z_end_rt, resLW, res1W, Bool.not_false, ↓z_coeL_cons, ↓z_coeL_nil, ↓z_pack1, ↓z_coe_bool, D.bool.injEq, decide_eq_true_eq, true_and, z_ite, ↓z_gtf, ↓z_grdD_u, Bool.not_true]); (try simp only [Int.toNat_natCast, Nat.mul_one, Bool.or_false, Bool.false_or, Bool.or_self, Bool.or_true])
    have e1 : decide (dcE c m (t + after) = 0) = decide (c.nd ≤ ye ∧ t + after ≤ last) := decide_eq_decide.2 d1
    exact ⟨fun a1 => ⟨fun _ => ⟨fun a2 => ⟨fun _ => ⟨fun _ => trivial, fun g => absurd a2 g⟩, fun g => g (by rw [d2, if_pos ⟨a1, a2⟩])⟩, fun a2 => ⟨fun _ => trivial, fun _ => by rw [d2, if_neg (fun g => a2 g.2)]⟩⟩, fun g => g (by rw [e1]; exact decide_eq_decide.2 ⟨fun g => g.2, fun g => ⟨a1, g⟩⟩)⟩, fun a1 => ⟨fun _ => by rw [d2, if_neg (fun g => a1 g.1)], fun g => g (by rw [e1]; exact decide_eq_false fun g => a1 g.1)⟩⟩
end Go.Abs

