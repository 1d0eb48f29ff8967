/-
  DOM, ninth walks: the law of nested domains.
-/
import Derived.Test.YtffcdocmabefiaaD10
namespace Go.Abs
open Go.Proofs
theorem up_0 {d : List Int} {r : List (Int × Bool)} {h : List Int} {o : Int} (hc : chk d r h o = 0) {lv : Int} {i : Nat} (hi : i < d.length) (h0 : 0 ≤ lv) (h3 : lv ≤ 3) : 0 ≤ ofD d r h o lv i := by
  rw [ofD_up hc hi h0 h3]
  obtain ⟨c1, c2, c3, c4, c5, c6, c7, c8⟩ := chk_ok hc
  have e1 : d.getD i 0 = d[i] := getD_at _
  have m1 := c6 _ (List.getElem_mem hi)
  have e2 : r.getD (d[i]).toNat (0, false) = r[(d[i]).toNat]'(by omega) := getD_at _
  have m2 := c7 _ (List.getElem_mem (show (d[i]).toNat < r.length by omega))
  have e3 : h.getD (r[(d[i]).toNat]'(by omega)).1.toNat 0 = h[(r[(d[i]).toNat]'(by omega)).1.toNat]'(by omega) := getD_at _
  have m3 := c8 _ (List.getElem_mem (show (r[(d[i]).toNat]'(by omega)).1.toNat < h.length by omega))
  simp only [upD, Int.toNat_natCast, e1, e2, e3]
  repeat' split
  all_goals omega
theorem up_s {d : List Int} {r : List (Int × Bool)} {h : List Int} {o : Int} (hc : chk d r h o = 0) {i j : Nat} (hi : i < d.length) (hj : j < d.length) :
    (ofD d r h o 0 i = ofD d r h o 0 j → ofD d r h o 1 i = ofD d r h o 1 j) ∧ (ofD d r h o 1 i = ofD d r h o 1 j → ofD d r h o 2 i = ofD d r h o 2 j) ∧ (ofD d r h o 2 i = ofD d r h o 2 j → ofD d r h o 3 i = ofD d r h o 3 j) := by
  simp only [ofD_up hc hi (show (0 : Int) ≤ 0 by omega) (show (0 : Int) ≤ 3 by omega), ofD_up hc hi (show (0 : Int) ≤ 1 by omega) (show (1 : Int) ≤ 3 by omega), ofD_up hc hi (show (0 : Int) ≤ 2 by omega) (show (2 : Int) ≤ 3 by omega), ofD_up hc hi (show (0 : Int) ≤ 3 by omega) (show (3 : Int) ≤ 3 by omega),
    ofD_up hc hj (show (0 : Int) ≤ 0 by omega) (show (0 : Int) ≤ 3 by omega), ofD_up hc hj (show (0 : Int) ≤ 1 by omega) (show (1 : Int) ≤ 3 by omega), ofD_up hc hj (show (0 : Int) ≤ 2 by omega) (show (2 : Int) ≤ 3 by omega), ofD_up hc hj (show (0 : Int) ≤ 3 by omega) (show (3 : Int) ≤ 3 by omega)]
  simp only [upD, Int.reduceEq, if_false, if_true]
  refine ⟨fun e => by rw [e], fun e => by rw [e], fun e => by rw [e]⟩
theorem rel_le {d : List Int} {r : List (Int × Bool)} {h : List Int} {o : Int} (hc : chk d r h o = 0) {i j l : Nat} (hi : i < d.length) (hj : j < d.length) (hl : l < 4) : relD d r h o i j ≤ l ↔ ofD d r h o l i = ofD d r h o l j := by
  have z0 := up_0 hc hi (show (0 : Int) ≤ 0 by omega) (by omega)
  have z1 := up_0 hc hi (show (0 : Int) ≤ 1 by omega) (by omega)
  have z2 := up_0 hc hi (show (0 : Int) ≤ 2 by omega) (by omega)
  have z3 := up_0 hc hi (show (0 : Int) ≤ 3 by omega) (by omega)
  obtain ⟨s0, s1, s2⟩ := up_s hc hi hj
  unfold relD
  match l, hl with
  | 0, _ => show _ ↔ ofD d r h o 0 i = ofD d r h o 0 j; (repeat' split) <;> omega
  | 1, _ => show _ ↔ ofD d r h o 1 i = ofD d r h o 1 j; (repeat' split) <;> omega
  | 2, _ => show _ ↔ ofD d r h o 2 i = ofD d r h o 2 j; (repeat' split) <;> omega
  | 3, _ => show _ ↔ ofD d r h o 3 i = ofD d r h o 3 j; (repeat' split) <;> omega
theorem rel_rng {d : List Int} {r : List (Int × Bool)} {h : List Int} {o i j : Int} : 0 ≤ relD d r h o i j ∧ relD d r h o i j ≤ 4 := by
  unfold relD; (repeat' split) <;> omega
theorem rel_sym {d : List Int} {r : List (Int × Bool)} {h : List Int} {o i j : Int} : relD d r h o i j = relD d r h o j i := by
  unfold relD; (repeat' split) <;> omega
theorem rel_tri {d : List Int} {r : List (Int × Bool)} {h : List Int} {o : Int} (hc : chk d r h o = 0) {i j k : Nat} (hi : i < d.length) (hj : j < d.length) (hk : k < d.length) : relD d r h o i k ≤ relD d r h o i j ∨ relD d r h o i k ≤ relD d r h o j k := by
  refine Classical.byContradiction fun hn => ?_
  have r1 := rel_rng (d := d) (r := r) (h := h) (o := o) (i := i) (j := j)
  have r2 := rel_rng (d := d) (r := r) (h := h) (o := o) (i := j) (j := k)
  have r3 := rel_rng (d := d) (r := r) (h := h) (o := o) (i := i) (j := k)
  obtain ⟨l, hl, e⟩ : ∃ l : Nat, l < 4 ∧ relD d r h o i k = (l : Int) + 1 := ⟨(relD d r h o i k).toNat - 1, by omega, by omega⟩
  have a1 := (rel_le hc hi hj hl).1 (by omega)
  have a2 := (rel_le hc hj hk hl).1 (by omega)
  have := (rel_le hc hi hk hl).2 (a1.trans a2)
  omega
theorem memZ_at {d : List Int} {r : List (Int × Bool)} {h : List Int} {o lv k : Int} {i : Nat} (hi : i < (memZ d r h o lv k).length) : ∃ j : Nat, (memZ d r h o lv k)[i] = j ∧ j < d.length ∧ ofD d r h o lv j = k := by
  have hi' : i < (memD d r h o lv k).length := by simpa [memZ] using hi
  have hm := List.getElem_mem hi'
  refine ⟨(memD d r h o lv k)[i], by simp [memZ], ?_⟩
  generalize (memD d r h o lv k)[i] = j at hm
  unfold memD memN at hm
  rw [List.mem_filter, List.mem_range, decide_eq_true_eq] at hm
  exact ⟨hm.1, hm.2.2⟩
theorem memZ_lt {d : List Int} {r : List (Int × Bool)} {h : List Int} {o lv k : Int} {i j : Nat} (hij : i < j) (hj : j < (memZ d r h o lv k).length) : (memZ d r h o lv k)[i] < (memZ d r h o lv k)[j] := by
  have hp : (memD d r h o lv k).Pairwise (· < ·) := by
    unfold memD memN
    exact List.pairwise_lt_range.filter _
  have hj' : j < (memD d r h o lv k).length := by simpa [memZ] using hj
  have := List.pairwise_iff_getElem.1 hp i j (by omega) hj' hij
  simp only [memZ, List.getElem_map]
  omega
/-- How many disks the first k domains hold, of the first m. -/
def totN (d : List Int) (r : List (Int × Bool)) (h : List Int) (o lv : Int) (m : Nat) : Nat → Nat
  | 0 => 0
  | k + 1 => totN d r h o lv m k + (memN d r h o lv k m).length
theorem tot_s {d : List Int} {r : List (Int × Bool)} {h : List Int} {o lv : Int} {m : Nat} (h0 : 0 ≤ ofD d r h o lv m) : ∀ k, totN d r h o lv (m + 1) k = totN d r h o lv m k + if ofD d r h o lv m < k then 1 else 0
  | 0 => by simp only [totN]; rw [if_neg (by omega)]
  | k + 1 => by
    simp only [totN, tot_s h0 k, memN_s, List.length_append]
    by_cases e : ofD d r h o lv m = k
    · rw [if_pos (show 0 ≤ (k : Int) ∧ ofD d r h o lv m = k from ⟨by omega, e⟩), if_neg (by omega), if_pos (by omega)]; simp; omega
    · rw [if_neg (show ¬ (0 ≤ (k : Int) ∧ ofD d r h o lv m = k) from fun h => e h.2)]
      by_cases e2 : ofD d r h o lv m < k
      · rw [if_pos e2, if_pos (by omega)]; simp; omega
      · rw [if_neg e2, if_neg (by omega)]; simp
theorem tot_mono {d : List Int} {r : List (Int × Bool)} {h : List Int} {o lv : Int} {m a b : Nat} (hab : a ≤ b) : totN d r h o lv m a ≤ totN d r h o lv m b := by
  induction b with
  | zero => obtain rfl : a = 0 := by omega
            exact Nat.le_refl _
  | succ b ih =>
    by_cases e : a = b + 1
    · subst e; exact Nat.le_refl _
    · exact Nat.le_trans (ih (by omega)) (by simp only [totN]; omega)
theorem tot_le {d : List Int} {r : List (Int × Bool)} {h : List Int} {o lv : Int} {m N k : Nat} (ht : totN d r h o lv m N = m) (hk : k + 1 ≤ N) : totN d r h o lv m k + (memN d r h o lv k m).length ≤ m := by
  have := tot_mono (d := d) (r := r) (h := h) (o := o) (lv := lv) (m := m) hk
  rw [ht] at this
  exact this
theorem tot_all {d : List Int} {r : List (Int × Bool)} {h : List Int} {o lv : Int} (hc : chk d r h o = 0) (h0 : 0 ≤ lv) (h3 : lv ≤ 3) : ∀ m, m ≤ d.length → totN d r h o lv m (sizeD d r h o lv).toNat = m
  | 0, _ => by
    have : ∀ k, totN d r h o lv 0 k = 0 := by
      intro k; induction k with
      | zero => rfl
      | succ k ih => simp [totN, ih, memN]
    exact this _
  | m + 1, hm => by
    have z := up_0 hc (i := m) (by omega) h0 h3
    rw [tot_s z, tot_all hc h0 h3 m (by omega), if_pos]
    have := of_lt (d := d) (r := r) (h := h) (o := o) (lv := lv) (k := m)
    omega
theorem tmodN {a b : Nat} (hb : 0 < b) : ∃ c : Nat, c < b ∧ ((a : Int).tmod (b : Int)) = c := ⟨a % b, Nat.mod_lt _ hb, by rw [← Int.ofNat_tmod]⟩
set_option maxRecDepth 100000 in
set_option maxHeartbeats 16000000 in
theorem fn_LawG (G : Glob) (d : List Int) (r : List (Int × Bool)) (h : List Int) (o : Int) (p q s : UInt8) : Fn G Try.prog 4 [.agg (domA d r h o), .agg [bD p, bD q, bD s]] (.bool true) := by
  unfold domA bD
  refine Fn.mk (c := _) Try.func4 rfl rfl Try.ntmps4 Try.results4 ?_
  (simp -dsimp only [bodyW, List.length_cons, List.length_nil, Nat.zero_add, Nat.reduceAdd, Nat.reduceLeDiff, wfL, ↓z_seq, ↓z_region, ↓z_ops_plain, ↓z_box, ↓evW_tmp, ↓z_lk_env, ↓reduceIte, ↓z_cl_agg, ↓z_nmC_cons, ↓z_mn'_sl, ↓z_mn'_int, ↓z_nmC_nil, and_self, ↓z_new, ↓z_nm_nil, Nat.reduceLT, ↓z_pg_env, ↓z_mn_agg, ↓z_pg_env0, ↓z_put, ↓lkW_cons, Nat.reduceEqDiff, reduceCtorEq, ↓z_nm_cons, ↓z_pg_cons, ↓z_mn_ptr, ↓z_pg_nil, ↓z_assign, ↓evW_const, ↓constW_bool, ↓z_ops_nil, ↓z_seq_nrm, ↓z_load, ↓y_ty25, ↓y_sz25, ↓z_agTy_st, ↓loadW_ptr, ↓lkoW_cons, ↓z_rd_t, ↓z_sub_c, ↓z_sub_nil, ↓z_callv, ↓evW_func, ↓z_evL_cons, ↓z_evL_nil, ↓z_fun0, ↓z_coeL_cons, ↓z_coe_oag, ↓z_coeC_cons, ↓z_coeS_sl, ↓z_coeS_int, ↓z_coeC_nil, ↓z_coeL_nil, true_and])
  intro hd _
  refine call_fn (fn_Check G d r h o) fun _ => ?_
  (simp -dsimp only [↓z_put, Nat.reduceLT, ↓z_ops_plain, ↓z_binOp, ↓evW_tmp, ↓lkW_cons, ↓reduceIte, ↓evW_const, ↓constW_int, inR_i64, Int.reduceNeg, Int.reduceLE, and_self, ↓z_bn_neq, ↓z_move, ↓z_ops_guard, ↓z_grd, ↓z_dst_s, ↓z_dst_0, ↓z_grdD_b, ↓z_gdf, ne_eq, Nat.reduceEqDiff, ↓z_gnf, ↓z_gft, ↓z_pick, ↓z_pick_b, ↓z_gnt, ↓z_gff, ↓constW_bool, ↓z_ops_nil, ↓z_seq_nrm, ↓z_cond, ↓z_cnd, ↓z_gtt, ↓z_seq, ↓z_region, ↓z_callv, ↓evW_func, ↓z_evL_nil, ↓z_fun0, ↓z_coeL_nil, true_and, ↓z_fieldAddr, ↓y_fl25x0, ↓y_sz22, reduceCtorEq, not_false_eq_true, ↓z_fa_ptr, ↓z_load, ↓y_ty22, ↓z_agTy_sl, ↓loadW_ptr, ↓lkoW_cons, Nat.zero_add, ↓z_rd_f, ↓nthW_cons, ↓z_callb, ↓z_evL_cons, ↓z_len, ↓z_ln_sl, ↓z_bn_eql, ↓z_gdt, ↓z_skip, ↓z_assign, ↓z_region_d, ↓y_mix, z_ite, Classical.not_not])
  refine ⟨fun g => call_fn (fn_sanity G) fun _ => by (simp -dsimp only [↓z_put, Nat.reduceLT, ↓z_ops_plain, ↓z_assign, ↓evW_tmp, ↓lkW_cons, ↓reduceIte, ↓z_ops_nil, ↓z_seq_nrm, ↓z_ret, ↓z_seq_rt, ↓z_end_rt, resLW, res1W, Bool.not_false, ne_eq, Nat.zero_add, ↓z_coeL_cons, Nat.reduceAdd, ↓z_coeL_nil, ↓z_pack1, ↓z_coe_bool, and_self]); (try simp only [Int.toNat_natCast, Nat.mul_one, Bool.or_false, Bool.false_or, Bool.or_self, Bool.or_true]), fun hc => ⟨fun g => call_fn (fn_sanity G) fun _ => by (simp -dsimp only [↓z_put, Nat.reduceLT, ↓z_ops_plain, ↓z_assign, ↓evW_tmp, ↓lkW_cons, ↓reduceIte, ↓z_ops_nil, ↓z_seq_nrm, ↓z_ret, ↓z_seq_rt, ↓z_end_rt, resLW, res1W, Nat.zero_add, ne_eq, ↓z_coeL_cons, Nat.reduceAdd, ↓z_coeL_nil, ↓z_pack1, ↓z_coe_bool, and_self]); (try simp only [Int.toNat_natCast, Nat.mul_one, Bool.or_false, Bool.false_or, Bool.or_self, Bool.or_true]), fun g0 => ?_⟩⟩
  refine rgn_d (by decide +kernel) ?_
  have hpos : 0 < d.length := by omega
  have c64 := (chk_ok hc).1
  obtain ⟨i, hi, ei⟩ := tmodN (a := p.toNat) hpos
  obtain ⟨j, hj, ej⟩ := tmodN (a := q.toNat) hpos
  obtain ⟨k, hk, ek⟩ := tmodN (a := s.toNat) hpos
  (simp -dsimp only [↓z_drw_indexAddr, ↓z_drwS, ↓z_grd_none, ↓z_withE, ↓z_rd_tmp, ↓lkW_cons, Nat.reduceEqDiff, ↓reduceIte, ↓z_rd_const, ↓z_rd_nil, ↓z_ap_cons, ↓z_ap_nil, ↓z_indexAddr, ↓evW_tmp, ↓evW_const, ↓constW_int, inR_i64, Int.reduceNeg, Int.reduceLE, and_self, ↓y_ty36, ↓z_elTy_arr, ↓y_sz5, ↓z_ix_ptr, Nat.zero_add, Int.reduceToNat, Nat.mul_one, Nat.reduceAdd, and_true, true_and, ↓z_exD_all, ↓z_exD_and, ↓z_exD_eq, ↓z_put, Nat.reduceLT, ↓z_drwK, ↓z_drw_load, ↓z_load, ↓y_ty5, ↓z_agTy_int, ↓loadW_ptr, ↓lkoW_cons, ↓z_rd_f, ↓nthW_cons, ↓z_drw_convert, ↓z_convert, ↓y_ty3, ↓z_cvt_int, ↓z_cv_int, ↓z_cvi_u8_i64, ↓z_drw_move, ↓z_move, ↓z_drw_binOp, ↓z_binOp, ↓z_bn_rem, ↓z_rem_i64, ne_eq, ei, reduceCtorEq, Nat.reduceSub, ej, ek, ↓z_drw_assign, ↓z_assign, ↓z_drw_nil, ↓z_seq_nrm, ↓z_seq, ↓z_region_d, ↓y_mix])
  refine ⟨by omega, by omega, by omega, by omega, by omega, by omega, ?_⟩
  refine rgn_d (by decide +kernel) ?_
  (simp -dsimp only [↓z_drw_load, ↓z_drwS, ↓z_grd_none, ↓z_withE, ↓z_rd_tmp, ↓lkW_cons, Nat.reduceEqDiff, ↓reduceIte, ↓z_rd_nil, ↓z_ap_cons, ↓z_ap_nil, ↓z_load, ↓evW_tmp, ↓y_ty25, ↓y_sz25, ↓z_agTy_st, ↓loadW_ptr, ↓lkoW_cons, Nat.zero_add, reduceCtorEq, ↓z_rd_t, List.length_cons, List.length_nil, Nat.reduceAdd, Nat.reduceLeDiff, ↓z_sub_c, ↓z_sub_nil, and_true, true_and, ↓z_exD_all, ↓z_exD_eq, ↓z_put, Nat.reduceLT, ↓z_drwK, ↓z_drw_move, ↓z_move, ↓z_drw_callv, ↓z_rd_func]); (try simp only [Int.toNat_natCast, Nat.mul_one, Bool.or_false, Bool.false_or, Bool.or_self, Bool.or_true])
  refine ex_mk (.int .i64 (relD d r h o i j)) (fun E => by (simp -dsimp only [↓z_ap_cons, ↓z_ap_nil, ↓z_callv, ↓evW_func, ↓z_evL_cons, ↓evW_tmp, ↓lkW_cons, ↓reduceIte, Nat.reduceEqDiff, ↓z_evL_nil, ↓z_fun0, ↓z_coeL_cons, ↓z_coe_oag, ↓z_coeC_cons, ↓z_coeS_sl, ↓z_coeS_int, ↓z_coeC_nil, ↓z_coe_int, ↓z_coeL_nil]); (try simp only [Int.toNat_natCast, Nat.mul_one, Bool.or_false, Bool.false_or, Bool.or_self, Bool.or_true]); exact call_fn (fn_Relate G d r h o i j) fun _ => ⟨rfl, rfl⟩) ?_
  (simp -dsimp only [↓z_put, Nat.reduceLT, ↓z_drwK, ↓z_drw_load, ↓z_drwS, ↓z_grd_none, ↓z_withE, ↓z_rd_tmp, ↓lkW_cons, Nat.reduceEqDiff, ↓reduceIte, ↓z_rd_nil, ↓z_ap_cons, ↓z_ap_nil, ↓z_load, ↓evW_tmp, ↓y_ty25, ↓y_sz25, ↓z_agTy_st, ↓loadW_ptr, ↓lkoW_cons, Nat.zero_add, reduceCtorEq, ↓z_rd_t, List.length_cons, List.length_nil, Nat.reduceAdd, Nat.reduceLeDiff, ↓z_sub_c, ↓z_sub_nil, and_true, true_and, ↓z_exD_all, ↓z_exD_eq, ↓z_drw_move, ↓z_move, ↓z_drw_callv, ↓z_rd_func]); (try simp only [Int.toNat_natCast, Nat.mul_one, Bool.or_false, Bool.false_or, Bool.or_self, Bool.or_true])
  refine ex_mk (.int .i64 (relD d r h o j k)) (fun E => by (simp -dsimp only [↓z_ap_cons, ↓z_ap_nil, ↓z_callv, ↓evW_func, ↓z_evL_cons, ↓evW_tmp, ↓lkW_cons, ↓reduceIte, Nat.reduceEqDiff, ↓z_evL_nil, ↓z_fun0, ↓z_coeL_cons, ↓z_coe_oag, ↓z_coeC_cons, ↓z_coeS_sl, ↓z_coeS_int, ↓z_coeC_nil, ↓z_coe_int, ↓z_coeL_nil]); (try simp only [Int.toNat_natCast, Nat.mul_one, Bool.or_false, Bool.false_or, Bool.or_self, Bool.or_true]); exact call_fn (fn_Relate G d r h o j k) fun _ => ⟨rfl, rfl⟩) ?_
  (simp -dsimp only [↓z_put, Nat.reduceLT, ↓z_drwK, ↓z_drw_load, ↓z_drwS, ↓z_grd_none, ↓z_withE, ↓z_rd_tmp, ↓lkW_cons, Nat.reduceEqDiff, ↓reduceIte, ↓z_rd_nil, ↓z_ap_cons, ↓z_ap_nil, ↓z_load, ↓evW_tmp, ↓y_ty25, ↓y_sz25, ↓z_agTy_st, ↓loadW_ptr, ↓lkoW_cons, Nat.zero_add, reduceCtorEq, ↓z_rd_t, List.length_cons, List.length_nil, Nat.reduceAdd, Nat.reduceLeDiff, ↓z_sub_c, ↓z_sub_nil, and_true, true_and, ↓z_exD_all, ↓z_exD_eq, ↓z_drw_move, ↓z_move, ↓z_drw_callv, ↓z_rd_func]); (try simp only [Int.toNat_natCast, Nat.mul_one, Bool.or_false, Bool.false_or, Bool.or_self, Bool.or_true])
  refine ex_mk (.int .i64 (relD d r h o i k)) (fun E => by (simp -dsimp only [↓z_ap_cons, ↓z_ap_nil, ↓z_callv, ↓evW_func, ↓z_evL_cons, ↓evW_tmp, ↓lkW_cons, ↓reduceIte, Nat.reduceEqDiff, ↓z_evL_nil, ↓z_fun0, ↓z_coeL_cons, ↓z_coe_oag, ↓z_coeC_cons, ↓z_coeS_sl, ↓z_coeS_int, ↓z_coeC_nil, ↓z_coe_int, ↓z_coeL_nil]); (try simp only [Int.toNat_natCast, Nat.mul_one, Bool.or_false, Bool.false_or, Bool.or_self, Bool.or_true]); exact call_fn (fn_Relate G d r h o i k) fun _ => ⟨rfl, rfl⟩) ?_
  (simp -dsimp only [↓z_put, Nat.reduceLT, ↓z_drwK, ↓z_drw_assign, ↓z_drwS, ↓z_grd_none, ↓z_withE, ↓z_rd_tmp, ↓lkW_cons, Nat.reduceEqDiff, ↓reduceIte, ↓z_rd_nil, ↓z_ap_cons, ↓z_ap_nil, ↓z_assign, ↓evW_tmp, Nat.zero_add, Nat.reduceAdd, and_true, ↓z_exD_all, ↓z_exD_eq, ↓z_drw_nil, ↓z_seq_nrm, ↓z_seq, ↓z_region, ↓z_ops_plain, ↓z_load, ↓y_ty25, ↓y_sz25, ↓z_agTy_st, ↓loadW_ptr, ↓lkoW_cons, reduceCtorEq, ↓z_rd_t, List.length_cons, List.length_nil, Nat.reduceLeDiff, ↓z_sub_c, ↓z_sub_nil, ↓z_move, ↓z_callv, ↓evW_func, ↓z_evL_cons, ↓z_evL_nil, ↓z_fun0, ↓z_coeL_cons, ↓z_coe_oag, ↓z_coeC_cons, ↓z_coeS_sl, ↓z_coeS_int, ↓z_coeC_nil, ↓z_coe_int, ↓z_coeL_nil, true_and]); (try simp only [Int.toNat_natCast, Nat.mul_one, Bool.or_false, Bool.false_or, Bool.or_self, Bool.or_true])
  refine call_fn (fn_Relate G d r h o j i) fun _ => ?_
  have rs := rel_sym (d := d) (r := r) (h := h) (o := o) (i := j) (j := i)
  have rng := rel_rng (d := d) (r := r) (h := h) (o := o) (i := i) (j := j)
  have tr1 := rel_tri hc hi hj hk
  have tr2 := rel_tri hc hi hk hj
  have tr3 := rel_tri hc hj hi hk
  rw [rs]
  (simp -dsimp only [↓z_put, Nat.reduceLT, ↓z_ops_plain, ↓z_move, ↓evW_tmp, ↓lkW_cons, Nat.reduceEqDiff, ↓reduceIte, ↓z_binOp, ↓z_bn_neq, ↓z_ops_guard, ↓z_grd, ↓z_dst_s, ↓z_dst_0, ↓z_grdD_b, ↓z_gdf, ne_eq, not_true_eq_false, ↓z_gff, ↓evW_const, ↓constW_int, inR_i64, Int.reduceNeg, Int.reduceLE, and_self, ↓z_bn_lss, ↓z_pick, ↓z_pick_b, ↓z_gft, ↓z_gnf, ↓z_gnt, ↓constW_bool, ↓z_gtf, ↓z_ops_nil, ↓z_seq_nrm, ↓z_cond, ↓z_cnd, ↓z_gtt, ↓z_seq, ↓z_region, ↓z_assign, ↓z_ret, ↓z_seq_rt, ↓z_end_rt, resLW, res1W, Bool.not_false, Nat.zero_add, ↓z_coeL_cons, Nat.reduceAdd, ↓z_coeL_nil, ↓z_pack1, ↓z_coe_bool, D.bool.injEq, reduceCtorEq, true_and, ↓z_bn_gtr, ↓z_callb, ↓z_evL_cons, ↓z_evL_nil, ↓z_max, ↓z_mx_max, ↓z_mx_nil, ↓z_gdt, ↓z_skip, ↓z_block, ↓z_loop, z_ite]); (try simp only [Int.toNat_natCast, Nat.mul_one, Bool.or_false, Bool.false_or, Bool.or_self, Bool.or_true])
  have z : relD d r h o i j = relD d r h o j i := rs.symm
  have rs2 := rel_sym (d := d) (r := r) (h := h) (o := o) (i := k) (j := j)
  refine ⟨fun g => by omega, fun _ => ⟨fun g => by omega, fun _ => ⟨fun g => by omega, fun _ => ⟨fun g => by omega, fun _ => ⟨fun g => by omega, fun _ => ?_⟩⟩⟩⟩⟩
  clear tr1 tr2 tr3 rs rs2 z
  refine hold_intro ⟨[], Nat, fun lv => ⟨155, 2, [(92, .int .i64 lv), (5, .int .i64 d.length), (2, .ptr 0 0), (6, .int .i64 i), (7, .int .i64 j), (9, .int .i64 (relD d r h o i j))], [(1, [.int .u8 p.toNat, .int .u8 q.toNat, .int .u8 s.toNat]), (0, domA d r h o)]⟩, fun lv => lv ≤ 4, fun lv => 4 - lv, ?_, ?_⟩
  · unfold domA; (simp -dsimp only [↓z_ad_nil, ↓z_wk, ↓z_wkE_cons, ↓lkW_cons, ↓reduceIte, D.int.injEq, true_and, Nat.reduceEqDiff, ↓z_wkE_nil, and_self, and_true, ↓z_wkO_cons, ↓lkoW_cons, Nat.zero_add, reduceCtorEq, ↓z_wkO_nil]); (try simp only [Int.toNat_natCast, Nat.mul_one, Bool.or_false, Bool.false_or, Bool.or_self, Bool.or_true])
    exact ⟨0, by simp⟩
  rintro lv hlv
  unfold domA
  (simp -dsimp only [↓z_seq, ↓z_region, ↓z_ops_plain, ↓z_binOp, ↓evW_tmp, ↓lkW_cons, ↓reduceIte, ↓evW_const, ↓constW_int, inR_i64, Int.reduceNeg, Int.reduceLE, and_self, ↓z_bn_lss, ↓z_put, Nat.reduceLT, ↓z_ops_nil, ↓z_seq_nrm, ↓z_cond, ↓z_cnd, ↓z_gdt, ↓z_skip, ↓z_block, ↓z_move, Nat.reduceEqDiff, ↓z_assign, ↓z_region_d, ↓y_mix, true_and, ↓z_exit, ↓z_seq_ext, ↓z_lp_ext, ↓z_blk_ext, ↓z_callv, ↓evW_func, ↓z_evL_nil, ↓z_fun0, ↓z_coeL_nil, z_ite]); (try simp only [Int.toNat_natCast, Nat.mul_one, Bool.or_false, Bool.false_or, Bool.or_self, Bool.or_true])
  refine ⟨fun hlt => ?_, fun hge => ?_⟩
  rotate_left 1
  · refine call_fn (fn_sanity G) fun _ => ?_
    (simp -dsimp only [↓z_put, Nat.reduceLT, ↓z_ops_plain, ↓z_assign, ↓evW_tmp, ↓lkW_cons, ↓reduceIte, ↓z_ops_nil, ↓z_seq_nrm, ↓z_ret, ↓z_end_rt, resLW, res1W, ↓z_coeL_cons, ↓z_coeL_nil, ↓z_pack1, ↓z_coe_bool, and_self]); (try simp only [Int.toNat_natCast, Nat.mul_one, Bool.or_false, Bool.false_or, Bool.or_self, Bool.or_true])
  have hlt' : lv < 4 := by omega
  refine rgn_d (by decide +kernel) ?_
  (simp -dsimp only [↓z_drw_load, ↓z_drwS, ↓z_grd_none, ↓z_withE, ↓z_rd_tmp, ↓lkW_cons, Nat.reduceEqDiff, ↓reduceIte, ↓z_rd_nil, ↓z_ap_cons, ↓z_ap_nil, ↓z_load, ↓evW_tmp, ↓y_ty25, ↓y_sz25, ↓z_agTy_st, ↓loadW_ptr, ↓lkoW_cons, reduceCtorEq, ↓z_rd_t, Nat.zero_add, List.length_cons, List.length_nil, Nat.reduceAdd, Nat.reduceLeDiff, ↓z_sub_c, ↓z_sub_nil, and_true, true_and, ↓z_exD_all, ↓z_exD_eq, ↓z_put, Nat.reduceLT, ↓z_drwK, ↓z_drw_move, ↓z_move, ↓z_drw_callv, ↓z_rd_func]); (try simp only [Int.toNat_natCast, Nat.mul_one, Bool.or_false, Bool.false_or, Bool.or_self, Bool.or_true])
  refine ex_mk (.int .i64 (ofD d r h o lv i)) (fun E => by (simp -dsimp only [↓z_ap_cons, ↓z_ap_nil, ↓z_callv, ↓evW_func, ↓z_evL_cons, ↓evW_tmp, ↓lkW_cons, ↓reduceIte, Nat.reduceEqDiff, ↓z_evL_nil, ↓z_fun0, ↓z_coeL_cons, ↓z_coe_oag, ↓z_coeC_cons, ↓z_coeS_sl, ↓z_coeS_int, ↓z_coeC_nil, ↓z_coe_int, ↓z_coeL_nil]); (try simp only [Int.toNat_natCast, Nat.mul_one, Bool.or_false, Bool.false_or, Bool.or_self, Bool.or_true]); exact call_fn (fn_Of G d r h o lv i) fun _ => ⟨rfl, rfl⟩) ?_
  (simp -dsimp only [↓z_put, Nat.reduceLT, ↓z_drwK, ↓z_drw_load, ↓z_drwS, ↓z_grd_none, ↓z_withE, ↓z_rd_tmp, ↓lkW_cons, Nat.reduceEqDiff, ↓reduceIte, ↓z_rd_nil, ↓z_ap_cons, ↓z_ap_nil, ↓z_load, ↓evW_tmp, ↓y_ty25, ↓y_sz25, ↓z_agTy_st, ↓loadW_ptr, ↓lkoW_cons, reduceCtorEq, ↓z_rd_t, Nat.zero_add, List.length_cons, List.length_nil, Nat.reduceAdd, Nat.reduceLeDiff, ↓z_sub_c, ↓z_sub_nil, and_true, true_and, ↓z_exD_all, ↓z_exD_eq, ↓z_drw_move, ↓z_move, ↓z_drw_callv, ↓z_rd_func]); (try simp only [Int.toNat_natCast, Nat.mul_one, Bool.or_false, Bool.false_or, Bool.or_self, Bool.or_true])
  refine ex_mk (.int .i64 (ofD d r h o lv j)) (fun E => by (simp -dsimp only [↓z_ap_cons, ↓z_ap_nil, ↓z_callv, ↓evW_func, ↓z_evL_cons, ↓evW_tmp, ↓lkW_cons, ↓reduceIte, Nat.reduceEqDiff, ↓z_evL_nil, ↓z_fun0, ↓z_coeL_cons, ↓z_coe_oag, ↓z_coeC_cons, ↓z_coeS_sl, ↓z_coeS_int, ↓z_coeC_nil, ↓z_coe_int, ↓z_coeL_nil]); (try simp only [Int.toNat_natCast, Nat.mul_one, Bool.or_false, Bool.false_or, Bool.or_self, Bool.or_true]); exact call_fn (fn_Of G d r h o lv j) fun _ => ⟨rfl, rfl⟩) ?_
  (simp -dsimp only [↓z_put, Nat.reduceLT, ↓z_drwK, ↓z_drw_binOp, ↓z_drwS, ↓z_grd_none, ↓z_withE, ↓z_rd_tmp, ↓lkW_cons, Nat.reduceEqDiff, ↓reduceIte, ↓z_rd_nil, ↓z_ap_cons, ↓z_ap_nil, ↓z_binOp, ↓evW_tmp, ↓z_bn_eql, and_true, ↓z_exD_all, ↓z_exD_eq, ↓z_drw_move, ↓z_move, ↓z_bn_geq, ↓z_bn_bneq, ↓y_ty4, ↓z_boolTy, ne_eq, ↓z_drw_nil, ↓z_seq_nrm, ↓z_cond, ↓z_cnd, ↓z_gdt, ↓z_seq, ↓z_region, ↓z_ops_plain, ↓z_assign, ↓evW_const, ↓constW_bool, ↓z_ops_nil, ↓z_ret, ↓z_seq_rt, ↓z_blk_rt, ↓z_lp_rt, ↓z_end_rt, resLW, res1W, ↓z_coeL_cons, ↓z_coeL_nil, ↓z_pack1, ↓z_coe_bool, D.bool.injEq, reduceCtorEq, true_and, ↓z_skip, ↓constW_int, inR_i64, Int.reduceNeg, Int.reduceLE, and_self, ↓z_load, ↓y_ty25, ↓y_sz25, ↓z_agTy_st, ↓loadW_ptr, ↓lkoW_cons, ↓z_rd_t, Nat.zero_add, List.length_cons, List.length_nil, Nat.reduceAdd, Nat.reduceLeDiff, ↓z_sub_c, ↓z_sub_nil, ↓z_callv, ↓evW_func, ↓z_evL_cons, ↓z_evL_nil, ↓z_fun0, ↓z_coe_oag, ↓z_coeC_cons, ↓z_coeS_sl, ↓z_coeS_int, ↓z_coeC_nil, ↓z_coe_int, z_ite, Classical.not_not]); (try simp only [Int.toNat_natCast, Nat.mul_one, Bool.or_false, Bool.false_or, Bool.or_self, Bool.or_true])
  have hle := rel_le hc hi hj hlt'
  refine ⟨fun g => g (decide_eq_decide.2 hle.symm), fun _ => ?_⟩
  refine call_fn (fn_Size G d r h o lv) fun _ => ?_
  (simp -dsimp only [↓z_put, Nat.reduceLT, ↓z_ops_plain, ↓z_move, ↓evW_const, ↓constW_int, inR_i64, Int.reduceNeg, Int.reduceLE, and_self, ↓z_ops_nil, ↓z_seq_nrm, ↓z_block, ↓z_loop, true_and]); (try simp only [Int.toNat_natCast, Nat.mul_one, Bool.or_false, Bool.false_or, Bool.or_self, Bool.or_true])
  have hs0 := size_0 (d := d) (r := r) (h := h) (o := o) (lv := lv)
  have htot := tot_all hc (show (0 : Int) ≤ lv by omega) (show (lv : Int) ≤ 3 by omega) d.length (Nat.le_refl _)
  generalize hN : (sizeD d r h o lv).toNat = N at htot
  have eN : sizeD d r h o lv = (N : Int) := by omega
  rw [eN]
  refine hold_intro ⟨[], Nat, fun k => ⟨155, 2, [(111, .int .i64 k), (110, .int .i64 N), (13, .int .i64 (totN d r h o lv d.length k)), (12, .int .i64 lv), (92, .int .i64 lv), (5, .int .i64 d.length), (2, .ptr 0 0), (6, .int .i64 i), (7, .int .i64 j), (9, .int .i64 (relD d r h o i j))], [(1, [.int .u8 p.toNat, .int .u8 q.toNat, .int .u8 s.toNat]), (0, domA d r h o)]⟩, fun k => k ≤ N, fun k => N - k, ?_, ?_⟩
  · unfold domA; (simp -dsimp only [↓z_ad_nil, ↓z_wk, ↓z_wkE_cons, ↓lkW_cons, ↓reduceIte, D.int.injEq, true_and, Nat.reduceEqDiff, ↓z_wkE_nil, and_self, and_true, ↓z_wkO_cons, ↓lkoW_cons, reduceCtorEq, ↓z_wkO_nil]); (try simp only [Int.toNat_natCast, Nat.mul_one, Bool.or_false, Bool.false_or, Bool.or_self, Bool.or_true])
    exact ⟨0, by simp [totN]⟩
  rintro k hk2
  unfold domA
  (simp -dsimp only [↓z_seq, ↓z_region, ↓z_ops_plain, ↓z_binOp, ↓evW_tmp, ↓lkW_cons, ↓reduceIte, Nat.reduceEqDiff, ↓z_bn_lss, ↓z_put, Nat.reduceLT, ↓z_ops_nil, ↓z_seq_nrm, ↓z_cond, ↓z_cnd, ↓z_gdt, ↓z_skip, ↓z_block, ↓z_move, ↓z_assign, ↓z_load, ↓y_ty25, ↓y_sz25, ↓z_agTy_st, ↓loadW_ptr, ↓lkoW_cons, reduceCtorEq, ↓z_rd_t, Nat.zero_add, List.length_cons, List.length_nil, Nat.reduceAdd, Nat.reduceLeDiff, ↓z_sub_c, ↓z_sub_nil, ↓z_callv, ↓evW_func, ↓z_evL_cons, ↓z_evL_nil, ↓z_fun0, ↓z_coeL_cons, ↓z_coe_oag, ↓z_coeC_cons, ↓z_coeS_sl, ↓z_coeS_int, ↓z_coeC_nil, ↓z_coe_int, ↓z_coeL_nil, true_and, ↓z_exit, ↓z_seq_ext, ↓z_lp_ext, ↓z_blk_ext, ↓z_bn_neq, ne_eq, ↓evW_const, ↓constW_bool, ↓z_ret, ↓z_blk_rt, ↓z_seq_rt, ↓z_lp_rt, ↓z_end_rt, resLW, res1W, ↓z_pack1, ↓z_coe_bool, D.bool.injEq, ↓z_blk_nrm, ↓constW_int, inR_i64, Int.reduceNeg, Int.reduceLE, and_self, ↓z_bn_add, ↓wrW_i64, ↓z_lp_nrm, ↓z_wk, ↓z_wkE_cons, D.int.injEq, ↓z_wkE_nil, and_true, ↓z_wkO_cons, ↓z_wkO_nil, z_ite, Classical.not_not]); (try simp only [Int.toNat_natCast, Nat.mul_one, Bool.or_false, Bool.false_or, Bool.or_self, Bool.or_true])
  refine ⟨fun hlt2 => ?_, fun hge => ?_⟩
  rotate_left 1
  · have e : k = N := by omega
    subst e
    rw [htot]
    exact ⟨fun g => g rfl, fun _ => ⟨by omega, lv + 1, by omega, by omega, by omega⟩⟩
  refine call_fr (fn_Members G d r h o lv k) fun _ => ?_
  (simp -dsimp only [↓z_put, Nat.reduceLT, ↓z_ops_plain, ↓z_callb, ↓z_evL_cons, ↓evW_tmp, ↓lkW_cons, ↓reduceIte, ↓z_evL_nil, ↓z_len, ↓y_ty22, ↓z_ln_sl, ↓z_move, ↓evW_const, ↓constW_int, inR_i64, Int.reduceNeg, Int.reduceLE, and_self, ↓z_ops_nil, ↓z_seq_nrm, ↓z_block, ↓z_loop, true_and]); (try simp only [Int.toNat_natCast, Nat.mul_one, Bool.or_false, Bool.false_or, Bool.or_self, Bool.or_true])
  have hml : (memZ d r h o lv k).length = (memN d r h o lv k d.length).length := by simp [memZ, memD]
  have htk := tot_le (d := d) (r := r) (h := h) (o := o) (lv := lv) htot (show k + 1 ≤ N by omega)
  refine hold_intro ⟨[], Nat, fun x => ⟨155, 2, [(119, .int .i64 x), (118, .int .i64 (memZ d r h o lv k).length), (117, .sl 1 (memZ d r h o lv k).length ((memZ d r h o lv k).map (D.int .i64))), (13, .int .i64 (totN d r h o lv d.length k + x : Nat)), (14, .int .i64 k), (111, .int .i64 k), (110, .int .i64 N), (12, .int .i64 lv), (92, .int .i64 lv), (5, .int .i64 d.length), (2, .ptr 0 0), (6, .int .i64 i), (7, .int .i64 j), (9, .int .i64 (relD d r h o i j))], [(1, [.int .u8 p.toNat, .int .u8 q.toNat, .int .u8 s.toNat]), (0, domA d r h o)]⟩, fun x => x ≤ (memZ d r h o lv k).length, fun x => (memZ d r h o lv k).length - x, ?_, ?_⟩
  · unfold domA; (simp -dsimp only [↓z_ad_nil, ↓z_wk, ↓z_wkE_cons, ↓lkW_cons, ↓reduceIte, D.int.injEq, true_and, Nat.reduceEqDiff, ↓z_wkE_nil, and_self, and_true, ↓z_wkO_cons, ↓lkoW_cons, reduceCtorEq, ↓z_wkO_nil]); (try simp only [Int.toNat_natCast, Nat.mul_one, Bool.or_false, Bool.false_or, Bool.or_self, Bool.or_true])
    exact ⟨0, by simp⟩
  rintro x hx
  unfold domA
  (simp -dsimp only [↓z_seq, ↓z_region, ↓z_ops_plain, ↓z_binOp, ↓evW_tmp, ↓lkW_cons, ↓reduceIte, Nat.reduceEqDiff, ↓z_bn_lss, ↓z_put, Nat.reduceLT, ↓z_ops_nil, ↓z_seq_nrm, ↓z_cond, ↓z_cnd, ↓z_gdt, ↓z_skip, ↓z_block, ↓z_move, ↓z_indexAddr, ↓y_ty22, ↓z_elTy_sl, ↓y_sz3, ↓z_ix_sl, ↓z_load, ↓y_ty3, ↓z_agTy_int, ↓loadW_rop, ↓z_rd_f, ↓z_nth_int, ↓z_assign, ↓y_ty25, ↓y_sz25, ↓z_agTy_st, ↓loadW_ptr, ↓lkoW_cons, reduceCtorEq, ↓z_rd_t, Nat.zero_add, List.length_cons, List.length_nil, Nat.reduceAdd, Nat.reduceLeDiff, ↓z_sub_c, ↓z_sub_nil, ↓z_callv, ↓evW_func, ↓z_evL_cons, ↓z_evL_nil, ↓z_fun0, ↓z_coeL_cons, ↓z_coe_oag, ↓z_coeC_cons, ↓z_coeS_sl, ↓z_coeS_int, ↓z_coeC_nil, ↓z_coe_int, ↓z_coeL_nil, true_and, Nat.mul_one, ↓z_exit, ↓z_seq_ext, ↓z_lp_ext, ↓z_blk_ext, ↓z_blk_nrm, ↓evW_const, ↓constW_int, inR_i64, Int.reduceNeg, Int.reduceLE, and_self, ↓z_bn_add, ↓wrW_i64, ↓z_lp_nrm, ↓z_wk, ↓z_wkE_cons, D.int.injEq, ↓z_wkE_nil, and_true, ↓z_wkO_cons, ↓z_wkO_nil, z_ite]); (try simp only [Int.toNat_natCast])
  refine ⟨fun hlt3 => ?_, fun hge => ?_⟩
  rotate_left 1
  · have e : x = (memZ d r h o lv k).length := by omega
    subst e
    exact ⟨by omega, k + 1, by omega, by omega, by omega, by rw [hml]; rfl⟩
  have hlt3' : x < (memZ d r h o lv k).length := by omega
  obtain ⟨y, ey, hy, hof⟩ := memZ_at hlt3'
  refine ⟨by omega, by omega, by omega, ?_⟩
  have ey' : (memZ d r h o lv k)[x * 1]'(by omega) = (y : Int) := by simpa using ey
  rw [ey']
  refine call_fn (fn_Of G d r h o lv y) fun _ => ?_
  rw [hof]
  (simp -dsimp only [↓z_put, Nat.reduceLT, ↓z_ops_plain, ↓z_move, ↓evW_tmp, ↓lkW_cons, Nat.reduceEqDiff, ↓reduceIte, ↓z_binOp, ↓z_bn_neq, ↓z_ops_guard, ↓z_grd, ↓z_dst_s, ↓z_dst_0, ↓z_grdD_b, ↓z_gdf, ne_eq, not_true_eq_false, ↓z_gff, ↓evW_const, ↓constW_int, inR_i64, Int.reduceNeg, Int.reduceLE, and_self, ↓z_bn_gtr, ↓z_gdt, ↓z_gtt, ↓z_load, ↓y_ty25, ↓y_sz25, ↓z_agTy_st, ↓loadW_ptr, ↓lkoW_cons, reduceCtorEq, ↓z_rd_t, Nat.zero_add, List.length_cons, List.length_nil, Nat.reduceAdd, Nat.reduceLeDiff, ↓z_sub_c, ↓z_sub_nil, ↓z_callv, ↓evW_func, ↓z_evL_cons, ↓z_evL_nil, ↓z_fun0, ↓z_coeL_cons, ↓z_coe_oag, ↓z_coeC_cons, ↓z_coeS_sl, ↓z_coeS_int, ↓z_coeC_nil, ↓z_coe_int, ↓z_coeL_nil, true_and, ↓z_gnt, ↓z_gtf, ↓z_pick, ↓z_pick_b, ↓constW_bool, ↓z_gft, ↓z_ops_nil, ↓z_seq_nrm, ↓z_cond, ↓z_cnd, ↓z_skip, ↓z_region, ↓z_bn_add, ↓wrW_i64, ↓z_assign, ↓z_blk_nrm, ↓z_lp_nrm, ↓z_wk, ↓z_wkE_cons, D.int.injEq, ↓z_wkE_nil, and_true, ↓z_wkO_cons, ↓z_wkO_nil, z_ite]); (try simp only [Int.toNat_natCast, Nat.mul_one, Bool.or_false, Bool.false_or, Bool.or_self, Bool.or_true])
  refine ⟨fun gx => ?_, fun gx => ?_⟩
  · refine call_fr (fn_Members G d r h o lv k) fun _ => ?_
    (simp -dsimp only [↓z_put, Nat.reduceLT, ↓z_ops_guard, ↓z_grd, ↓z_dst_s, ↓z_dst_0, ↓lkW_cons, Nat.reduceEqDiff, ↓reduceIte, ↓z_grdD_b, ↓z_gtt, ↓z_move, ↓evW_tmp, ↓z_binOp, ↓evW_const, ↓constW_int, inR_i64, Int.reduceNeg, Int.reduceLE, and_self, ↓z_bn_sub, ↓wrW_i64, ↓z_indexAddr, ↓y_ty22, ↓z_elTy_sl, ↓y_sz3, ↓z_ix_sl, ↓z_load, ↓y_ty3, ↓z_agTy_int, ↓loadW_rop, ↓z_rd_f, ↓z_nth_int, ↓z_bn_leq, ↓z_gff, ↓z_pick, ↓z_pick_b, ↓z_ops_plain, ↓z_gft, ↓z_ops_nil, ↓z_seq_nrm, ↓z_cond, ↓z_cnd, ↓z_gdt, Nat.mul_one, ↓z_seq, ↓z_region, ↓z_assign, ↓constW_bool, ↓z_ret, ↓z_seq_rt, ↓z_blk_rt, ↓z_lp_rt, ↓z_end_rt, resLW, res1W, ne_eq, not_true_eq_false, ↓z_coeL_cons, ↓z_coeL_nil, ↓z_pack1, ↓z_coe_bool, D.bool.injEq, reduceCtorEq, true_and, ↓z_skip, ↓z_bn_add, ↓z_blk_nrm, ↓z_lp_nrm, ↓z_wk, ↓z_wkE_cons, D.int.injEq, ↓z_wkE_nil, and_true, ↓z_wkO_cons, ↓lkoW_cons, ↓z_wkO_nil, z_ite]); (try simp only [Int.toNat_natCast, Nat.mul_one, Bool.or_false, Bool.false_or, Bool.or_self, Bool.or_true])
    have hlt4 := memZ_lt (d := d) (r := r) (h := h) (o := o) (lv := lv) (k := k) (i := x - 1) (j := x) (by omega) hlt3'
    have e4 : ((x : Int) - 1).toNat = x - 1 := by omega
    simp only [e4]
    refine ⟨⟨by omega, by omega⟩, by omega, by omega, by omega, fun g => by omega, fun _ => ⟨⟨by omega, by omega⟩, ⟨by omega, by omega⟩, x + 1, by omega, by omega, by omega, by omega⟩⟩
  · exact ⟨⟨by omega, by omega⟩, ⟨by omega, by omega⟩, x + 1, by omega, by omega, by omega, by omega⟩
end Go.Abs

