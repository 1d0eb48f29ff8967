/-
  DOM, eleventh walks: the law of common failures.
-/
import Derived.Test.YtffcdocmabefiaaD9
namespace Go.Abs
open Go.Proofs
theorem cnt_bits : ∀ {f n : Nat}, n < 2 ^ f → cntN f n = (List.range f).countP (fun i => n.testBit i)
  | 0, n, _ => rfl
  | f + 1, n, h => by
    have ih := cnt_bits (f := f) (n := n / 2) (by rw [Nat.pow_succ] at h; omega)
    show n % 2 + cntN f (n / 2) = _
    rw [ih, List.range_succ_eq_map, List.countP_cons, List.countP_map]
    have e : (fun i => n.testBit i) ∘ Nat.succ = fun i => (n / 2).testBit i := by
      funext i; simp [Nat.testBit_succ]
    rw [e, Nat.testBit_zero]
    rcases Nat.mod_two_eq_zero_or_one n with h0 | h0 <;> simp [h0]; omega
theorem countP_ge {p : Nat → Bool} {n : Nat} (k : Nat) (h : ∀ i, n ≤ i → p i = false) : (List.range (n + k)).countP p = (List.range n).countP p := by
  induction k with
  | zero => rfl
  | succ k ih => rw [show n + (k + 1) = n + k + 1 by omega, List.range_succ, List.countP_append, ih]; simp [h (n + k) (by omega)]
theorem cnt_set {q : Nat → Bool} {n : Nat} (h : n ≤ 24) : cntN 24 (setN q n) = (List.range n).countP q := by
  rw [cnt_bits (setN_lt h)]
  obtain ⟨k, hk⟩ : ∃ k, 24 = n + k := ⟨24 - n, by omega⟩
  rw [hk, countP_ge k (fun i hi => by rw [setN_bit, decide_eq_false (by omega)]; rfl)]
  refine List.countP_congr fun i hi => ?_
  rw [setN_bit, decide_eq_true (List.mem_range.1 hi), Bool.true_and]
theorem countP_sum {α : Type} (p q s : α → Bool) (h : ∀ x, p x = (q x || s x)) (h2 : ∀ x, q x = true → s x = false) : ∀ l : List α, l.countP p = l.countP q + l.countP s
  | [] => rfl
  | x :: l => by
    have ih := countP_sum p q s h h2 l
    simp only [List.countP_cons, ih, h x]
    cases e1 : q x <;> cases e2 : s x <;> simp
    · omega
    · omega
    · have := h2 x e1; rw [e2] at this; cases this
theorem range_getD {l : List Int} : l = (List.range l.length).map fun i => l.getD i 0 := by
  apply List.ext_getElem
  · simp
  · intro i h1 h2; simp [List.getD_eq_getElem?_getD, h1]
section
variable {d : List Int} {r : List (Int × Bool)} {h : List Int} {o lv : Int} {lay : List Int}
theorem left_bit {bad : List Int} (hl : lay.length ≤ 24) {i : Nat} : (leftN d r h o lv lay bad).testBit i = (decide (i < lay.length) && leftQ d r h o lv lay bad i) := by
  unfold leftN; rw [if_neg (by omega), setN_bit]
theorem left_lt {bad : List Int} : leftN d r h o lv lay bad < 16777216 := by
  unfold leftN; split
  · omega
  · exact setN_lt (by omega)
theorem leftQ_app {a b : List Int} {i : Nat} : leftQ d r h o lv lay (a ++ b) i = (leftQ d r h o lv lay a i && leftQ d r h o lv lay b i) := by
  unfold leftQ
  rw [← Bool.decide_and, decide_eq_decide, List.mem_append]
  exact ⟨fun ⟨h1, h2⟩ => ⟨⟨h1, fun h => h2 (.inl h)⟩, h1, fun h => h2 (.inr h)⟩, fun ⟨⟨h1, h2⟩, _, h3⟩ => ⟨h1, fun h => h.elim h2 h3⟩⟩
theorem left_both (hl : lay.length ≤ 24) (a b : List Int) : leftN d r h o lv lay (a ++ b) = leftN d r h o lv lay a &&& leftN d r h o lv lay b := by
  apply Nat.eq_of_testBit_eq
  intro i
  rw [Nat.testBit_and, left_bit hl, left_bit hl, left_bit hl, leftQ_app]
  cases decide (i < lay.length) <;> simp
theorem andNot_zero {a b : Nat} (hb : b < 18446744073709551616) (hab : ∀ i, a.testBit i = true → b.testBit i = true) : a &&& (18446744073709551615 - b) = 0 := by
  apply Nat.eq_of_testBit_eq
  intro i
  rw [Nat.testBit_and, Nat.zero_testBit]
  have e : (18446744073709551615 - b).testBit i = (decide (i < 64) && !b.testBit i) := by
    have := Nat.testBit_two_pow_sub_succ (n := 64) (x := b) hb i
    rw [← this, show 18446744073709551615 - b = 2 ^ 64 - (b + 1) by omega]
  rw [e]
  cases h1 : a.testBit i
  · rfl
  · rw [hab i h1]; simp
theorem left_sub (hl : lay.length ≤ 24) (a : List Int) : ∀ i, (leftN d r h o lv lay a).testBit i = true → (leftN d r h o lv lay []).testBit i = true := by
  intro i hi
  rw [left_bit hl] at hi ⊢
  rw [Bool.and_eq_true] at hi ⊢
  refine ⟨hi.1, ?_⟩
  have := of_decide_eq_true hi.2
  exact decide_eq_true ⟨this.1, by simp⟩
theorem left_none (hl : lay.length ≤ 24) (hs : sizeD d r h o lv = 0) : leftN d r h o lv lay [] = 0 := by
  apply Nat.eq_of_testBit_eq
  intro i
  rw [left_bit hl, Nat.zero_testBit]
  have : leftQ d r h o lv lay [] i = false := by
    refine decide_eq_false fun hh => ?_
    have := of_lt (d := d) (r := r) (h := h) (o := o) (lv := lv) (k := lay.getD i 0)
    omega
  rw [this, Bool.and_false]
theorem hold_countP {x : Nat} : holdN d r h o lv lay lay.length x = (List.range lay.length).countP fun i => decide (ofD d r h o lv (lay.getD i 0) = (x : Int)) := by
  unfold holdN
  rw [List.take_length]
  conv => lhs; rw [range_getD (l := lay), List.countP_map]
  rfl
theorem left_count (hl : lay.length ≤ 24) (x : Nat) : cntN 24 (leftN d r h o lv lay []) = cntN 24 (leftN d r h o lv lay [(x : Int)]) + holdN d r h o lv lay lay.length x := by
  unfold leftN
  rw [if_neg (by omega), if_neg (by omega), cnt_set hl, cnt_set hl, hold_countP]
  refine countP_sum _ _ _ (fun i => ?_) (fun i hi => ?_) _
  · unfold leftQ
    rw [← Bool.decide_or, decide_eq_decide]
    simp only [List.not_mem_nil, not_false_eq_true, and_true, List.mem_singleton]
    omega
  · have := of_decide_eq_true hi
    exact decide_eq_false fun hh => this.2 (by rw [hh]; simp)
theorem of_neg {k : Int} (hc : chk d r h o = 0) (h0 : 0 ≤ lv) (h3 : lv ≤ 3) : 0 ≤ ofD d r h o lv k ↔ 0 ≤ k ∧ k < d.length := by
  constructor
  · intro hh
    unfold ofD at hh
    split at hh
    · omega
    · omega
  · rintro ⟨h1, h2⟩
    obtain ⟨i, rfl⟩ : ∃ i : Nat, k = i := ⟨k.toNat, by omega⟩
    exact up_0 hc (by omega) h0 h3
theorem up_next (hc : chk d r h o = 0) (h1 : 1 ≤ lv) (h3 : lv ≤ 3) {i j : Nat} (hi : i < d.length) (hj : j < d.length) (e : ofD d r h o (lv - 1) i = ofD d r h o (lv - 1) j) : ofD d r h o lv i = ofD d r h o lv j := by
  obtain ⟨s0, s1, s2⟩ := up_s hc hi hj
  have : lv = 1 ∨ lv = 2 ∨ lv = 3 := by omega
  rcases this with rfl | rfl | rfl
  · exact s0 e
  · exact s1 e
  · exact s2 e
theorem mem_memZ {k : Int} {i : Nat} (hk : 0 ≤ k) (hi : i < d.length) (e : ofD d r h o lv i = k) : (i : Int) ∈ memZ d r h o lv k := by
  unfold memZ memD memN
  refine List.mem_map.2 ⟨i, List.mem_filter.2 ⟨List.mem_range.2 hi, decide_eq_true ⟨hk, e⟩⟩, rfl⟩
def belZ (d : List Int) (r : List (Int × Bool)) (h : List Int) (o lv k : Int) (n : Nat) : List Int := ((memZ d r h o lv k).take n).map fun x => ofD d r h o (lv - 1) x
theorem left_below (hc : chk d r h o = 0) (h1 : 1 ≤ lv) (h3 : lv ≤ 3) (hl : lay.length ≤ 24) {k : Int} (hk : 0 ≤ k) : leftN d r h o lv lay [k] = leftN d r h o (lv - 1) lay (belZ d r h o lv k (memZ d r h o lv k).length) := by
  apply Nat.eq_of_testBit_eq
  intro i
  rw [left_bit hl, left_bit hl]
  congr 1
  unfold leftQ belZ
  rw [decide_eq_decide, List.take_length, of_neg hc (by omega) h3, of_neg hc (by omega) (by omega)]
  refine and_congr_right fun hv => not_congr ?_
  rw [List.mem_singleton]
  obtain ⟨x, hx⟩ : ∃ x : Nat, lay.getD i 0 = x := ⟨(lay.getD i 0).toNat, by omega⟩
  rw [hx] at hv ⊢
  constructor
  · intro e
    exact List.mem_map.2 ⟨x, mem_memZ hk (by omega) e, rfl⟩
  · intro e
    obtain ⟨y, hy, e2⟩ := List.mem_map.1 e
    obtain ⟨n, hn, rfl⟩ := List.getElem_of_mem hy
    obtain ⟨z, ez, hz, ho⟩ := memZ_at hn
    rw [ez] at e2
    rw [up_next hc h1 h3 (show x < d.length by omega) hz e2.symm, ho]
end
set_option maxRecDepth 100000 in
set_option maxHeartbeats 16000000 in
theorem fn_LawF (G : Glob) (d : List Int) (r : List (Int × Bool)) (h : List Int) (o : Int) (l a b : List Int) (p q : UInt8) :
    Fn G Try.prog 5 [.agg (domA d r h o), .sl 1 l.length (l.map (D.int .i64)), .agg [.sl 1 a.length (a.map (D.int .i64)), .sl 1 b.length (b.map (D.int .i64))], .agg [bD p, bD q]] (.bool true) := by
  unfold domA bD
  refine Fn.mk (c := _) Try.func5 rfl rfl Try.ntmps5 Try.results5 ?_
  (simp -dsimp only [bodyW, List.length_cons, List.length_nil, Nat.zero_add, Nat.reduceAdd, Nat.reduceLeDiff, wfL, ↓z_seq, ↓z_region, ↓z_ops_plain, ↓z_box, ↓evW_tmp, ↓z_lk_env, ↓reduceIte, ↓z_cl_agg, ↓z_nmC_cons, ↓z_mn'_sl, ↓z_mn'_int, ↓z_nmC_nil, and_self, ↓z_new, ↓z_nm_nil, Nat.reduceLT, ↓z_pg_env, ↓z_mn_agg, ↓z_mn_sl, ↓z_pg_env0, ↓z_put, ↓lkW_cons, Nat.reduceEqDiff, reduceCtorEq, ↓z_nm_cons, ↓z_pg_cons, ↓z_mn_ptr, ↓z_pg_nil, ↓z_assign, ↓evW_const, ↓constW_bool, ↓z_ops_nil, ↓z_seq_nrm, ↓z_region_d, ↓y_mix, true_and])
  intro hd hl ha hb
  refine rgn_d (by decide +kernel) ?_
  (simp -dsimp only [↓z_drw_indexAddr, ↓z_drwS, ↓z_grd_none, ↓z_withE, ↓z_rd_tmp, ↓lkW_cons, Nat.reduceEqDiff, ↓reduceIte, ↓z_rd_const, ↓z_rd_nil, ↓z_ap_cons, ↓z_ap_nil, ↓z_indexAddr, ↓evW_tmp, ↓evW_const, ↓constW_int, inR_i64, Int.reduceNeg, Int.reduceLE, and_self, ↓y_ty38, ↓z_elTy_arr, ↓y_sz22, ↓z_ix_ptr, Nat.zero_add, Int.reduceToNat, Nat.mul_one, Nat.reduceAdd, and_true, true_and, ↓z_exD_all, ↓z_exD_and, ↓z_exD_eq, ↓z_put, Nat.reduceLT, ↓z_drwK, ↓z_drw_load, ↓z_load, ↓y_ty22, ↓z_agTy_sl, ↓loadW_ptr, ↓lkoW_cons, ↓z_rd_f, ↓nthW_cons, reduceCtorEq, Nat.reduceSub, ↓z_drw_assign, ↓z_assign, ↓z_drw_nil, ↓z_seq_nrm, ↓z_seq, ↓z_region, ↓z_ops_plain, ↓y_ty25, ↓y_sz25, ↓z_agTy_st, ↓z_rd_t, List.length_cons, List.length_nil, Nat.reduceLeDiff, ↓z_sub_c, ↓z_sub_nil, ↓z_callv, ↓evW_func, ↓z_evL_cons, ↓z_evL_nil, ↓z_fun0, ↓z_coeL_cons, ↓z_coe_oag, ↓z_coeC_cons, ↓z_coeS_sl, ↓z_coeS_int, ↓z_coeC_nil, ↓z_coeL_nil])
  refine ⟨by omega, by omega, call_fn (fn_Check G d r h o) fun _ => ?_⟩
  (simp -dsimp only [↓z_put, Nat.reduceLT, ↓z_ops_plain, ↓z_binOp, ↓evW_tmp, ↓lkW_cons, ↓reduceIte, ↓evW_const, ↓constW_int, inR_i64, Int.reduceNeg, Int.reduceLE, and_self, ↓z_bn_neq, ↓z_move, ↓z_ops_guard, ↓z_grd, ↓z_dst_s, ↓z_dst_0, ↓z_grdD_b, ↓z_gdf, ne_eq, Nat.reduceEqDiff, ↓z_gnf, ↓z_gft, ↓z_pick, ↓z_pick_b, ↓z_gnt, ↓z_gff, ↓constW_bool, ↓z_gtf, ↓z_ops_nil, ↓z_seq_nrm, ↓z_cond, ↓z_cnd, ↓z_gtt, ↓z_seq, ↓z_region, ↓z_callv, ↓evW_func, ↓z_evL_nil, ↓z_fun0, ↓z_coeL_nil, true_and, reduceCtorEq, Nat.zero_add, ↓z_callb, ↓z_evL_cons, ↓z_len, ↓y_ty22, ↓z_ln_sl, ↓z_bn_gtr, ↓z_gdt, ↓z_skip, ↓z_indexAddr, ↓y_ty39, ↓z_elTy_arr, ↓y_sz5, ↓z_ix_ptr, ↓z_load, ↓y_ty5, ↓z_agTy_int, ↓loadW_ptr, ↓lkoW_cons, Nat.reduceAdd, ↓z_rd_f, ↓nthW_cons, Int.reduceToNat, Nat.mul_one, ↓z_convert, ↓y_ty3, ↓z_cvt_int, ↓z_cv_int, ↓z_cvi_u8_i64, ↓z_bn_rem, ↓z_rem_i64, Int.reduceEq, not_false_eq_true, ↓z_assign, ↓y_ty25, ↓y_sz25, ↓z_agTy_st, ↓z_rd_t, List.length_cons, List.length_nil, Nat.reduceLeDiff, ↓z_sub_c, ↓z_sub_nil, ↓constW_nils, ↓z_coeL_cons, ↓z_coe_oag, ↓z_coeC_cons, ↓z_coeS_sl, ↓z_coeS_int, ↓z_coeC_nil, ↓z_coe_int, ↓z_coe_sl, ↓z_coe_nils, z_ite, Classical.not_not])
  refine ⟨fun g => call_fn (fn_sanity G) fun _ => by (simp -dsimp only [↓z_put, Nat.reduceLT, ↓z_ops_plain, ↓z_assign, ↓evW_tmp, ↓lkW_cons, ↓reduceIte, ↓z_ops_nil, ↓z_seq_nrm, ↓z_ret, ↓z_seq_rt, ↓z_end_rt, resLW, res1W, Bool.not_false, ne_eq, Nat.zero_add, Nat.reduceAdd, ↓z_coeL_cons, ↓z_coeL_nil, ↓z_pack1, ↓z_coe_bool, and_self]); (try simp only [Int.toNat_natCast, Nat.mul_one, Bool.or_false, Bool.false_or, Bool.or_self, Bool.or_true]), fun hc => ⟨fun g => call_fn (fn_sanity G) fun _ => by (simp -dsimp only [↓z_put, Nat.reduceLT, ↓z_ops_plain, ↓z_assign, ↓evW_tmp, ↓lkW_cons, ↓reduceIte, ↓z_ops_nil, ↓z_seq_nrm, ↓z_ret, ↓z_seq_rt, ↓z_end_rt, resLW, res1W, Bool.not_false, ne_eq, Nat.zero_add, Nat.reduceAdd, ↓z_coeL_cons, ↓z_coeL_nil, ↓z_pack1, ↓z_coe_bool, and_self]); (try simp only [Int.toNat_natCast, Nat.mul_one, Bool.or_false, Bool.false_or, Bool.or_self, Bool.or_true]), fun gl => ⟨fun g => call_fn (fn_sanity G) fun _ => by (simp -dsimp only [↓z_put, Nat.reduceLT, ↓z_ops_plain, ↓z_assign, ↓evW_tmp, ↓lkW_cons, ↓reduceIte, ↓z_ops_nil, ↓z_seq_nrm, ↓z_ret, ↓z_seq_rt, ↓z_end_rt, resLW, res1W, Bool.not_false, ne_eq, Nat.zero_add, Nat.reduceAdd, ↓z_coeL_cons, ↓z_coeL_nil, ↓z_pack1, ↓z_coe_bool, and_self]); (try simp only [Int.toNat_natCast, Nat.mul_one, Bool.or_false, Bool.false_or, Bool.or_self, Bool.or_true]), fun ga => ⟨fun g => call_fn (fn_sanity G) fun _ => by (simp -dsimp only [↓z_put, Nat.reduceLT, ↓z_ops_plain, ↓z_assign, ↓evW_tmp, ↓lkW_cons, ↓reduceIte, ↓z_ops_nil, ↓z_seq_nrm, ↓z_ret, ↓z_seq_rt, ↓z_end_rt, resLW, res1W, ne_eq, Nat.zero_add, Nat.reduceAdd, ↓z_coeL_cons, ↓z_coeL_nil, ↓z_pack1, ↓z_coe_bool, and_self]); (try simp only [Int.toNat_natCast, Nat.mul_one, Bool.or_false, Bool.false_or, Bool.or_self, Bool.or_true]), fun gb => ?_⟩⟩⟩⟩
  obtain ⟨v, hv, ev⟩ : ∃ v : Nat, v < 4 ∧ (p.toNat : Int).tmod 4 = v := tmodN (a := p.toNat) (b := 4) (by omega)
  refine ⟨by omega, ?_⟩
  rw [ev]
  have hl24 : l.length ≤ 24 := by omega
  have b0 := left_lt (d := d) (r := r) (h := h) (o := o) (lv := v) (lay := l) (bad := [])
  have ba := left_lt (d := d) (r := r) (h := h) (o := o) (lv := v) (lay := l) (bad := a)
  have bb := left_lt (d := d) (r := r) (h := h) (o := o) (lv := v) (lay := l) (bad := b)
  have bab := left_lt (d := d) (r := r) (h := h) (o := o) (lv := v) (lay := l) (bad := a ++ b)
  refine call_fn ((fn_Left G d r h o v l []).weak (.cons (.refl _) (.cons (.refl _) (.cons (.refl _) (.cons (.nils 1) .nil))))) fun _ => ?_
  (simp -dsimp only [↓z_put, Nat.reduceLT, ↓z_ops_plain, ↓z_assign, ↓evW_tmp, ↓lkW_cons, ↓reduceIte, ↓z_ops_nil, ↓z_seq_nrm, ↓z_seq, ↓z_region, ↓z_load, Nat.reduceEqDiff, ↓y_ty25, ↓y_sz25, ↓z_agTy_st, ↓loadW_ptr, ↓lkoW_cons, Nat.zero_add, Nat.reduceAdd, reduceCtorEq, ↓z_rd_t, List.length_cons, List.length_nil, Nat.reduceLeDiff, ↓z_sub_c, ↓z_sub_nil, ↓z_move, ↓z_callv, ↓evW_func, ↓z_evL_cons, ↓z_evL_nil, ↓z_fun0, ↓z_coeL_cons, ↓z_coe_oag, ↓z_coeC_cons, ↓z_coeS_sl, ↓z_coeS_int, ↓z_coeC_nil, ↓z_coe_int, ↓z_coe_sl, ↓z_coeL_nil, true_and]); (try simp only [Int.toNat_natCast, Nat.mul_one, Bool.or_false, Bool.false_or, Bool.or_self, Bool.or_true])
  refine call_fn (fn_Left G d r h o v l a) fun _ => ?_
  (simp -dsimp only [↓z_put, Nat.reduceLT, ↓z_ops_plain, ↓z_assign, ↓evW_tmp, ↓lkW_cons, ↓reduceIte, ↓z_ops_nil, ↓z_seq_nrm, ↓z_seq, ↓z_region_d, ↓y_mix, true_and]); (try simp only [Int.toNat_natCast, Nat.mul_one, Bool.or_false, Bool.false_or, Bool.or_self, Bool.or_true])
  refine rgn_c 8 [3] [63, 65] [5, 7] [(4, .ptr 0 0), (7, .ptr 2 0), (11, .int .i64 v), (1, .sl 1 l.length (l.map (D.int .i64))), (9, .sl 1 a.length (a.map (D.int .i64))), (10, .sl 1 b.length (b.map (D.int .i64))), (12, .int .i64 (leftN d r h o v l [])), (13, .int .i64 (leftN d r h o v l a))] [] [(0, domA d r h o)] (by decide +kernel) ?_
  unfold domA
  (simp -dsimp only [↓z_wkE_cons, ↓lkW_cons, Nat.reduceEqDiff, ↓reduceIte, Nat.zero_add, Nat.reduceAdd, reduceCtorEq, ↓z_wkE_nil, and_self, ↓z_wkO_cons, ↓lkoW_cons, ↓z_wkO_nil, ↓z_nmTE_cons, ↓z_nmT_ptr, not_false_eq_true, ↓z_nmT_nil, ↓z_nmT_int, ↓z_nmT_sl, ↓z_nmTE_nil, ↓z_noEs_cons, ↓z_noE_cons, ↓z_noE_nil, ↓z_noEs_nil, ↓z_inE_nil, List.take_succ_cons, List.take_zero, ↓z_drc_load, ↓z_nbW_cons, ↓z_nbW_nil, ↓z_drcS, ↓z_grd_none, ↓z_withE, ↓z_rd_tmp, ↓z_rd_nil, ↓z_ap_cons, ↓z_ap_nil, ↓z_apO_cons, ↓z_apO_nil, ↓z_load, ↓evW_tmp, ↓y_ty25, ↓y_sz25, ↓z_agTy_st, ↓loadW_ptr, ↓z_rd_t, List.length_cons, List.length_nil, Nat.reduceLeDiff, ↓z_sub_c, ↓z_sub_nil, and_true, true_and, ↓z_exD_all, ↓z_exD_all2, ↓z_exD_eq, ↓z_nmT_oag, ↓z_nmTS_sl, ↓z_nmTS_int, ↓z_nmTS_nil, ↓z_put, Nat.reduceLT, ↓z_drcK, ↓z_drc_move, ↓z_move, ↓z_drc_buildSlice, ↓z_mpO_nil, ↓z_buildSlice, ↓y_ty22, ↓z_slTy, ↓y_sz3, Nat.mul_one, maxLen_lit, ↓y_zr3, ↓z_repL_0, ↓z_bld_nil, ↓z_allP_nil, ↓z_nmT_slx, ↓z_drc_callb_app, ↓z_putF_some, ↓z_dstP_some, ↓z_drc_nil]); (try simp only [Int.toNat_natCast, Nat.mul_one, Bool.or_false, Bool.false_or, Bool.or_self, Bool.or_true])
  refine ch_mk [(61, .slx 1 0 []), (62, .sl 1 a.length (a.map (D.int .i64)))] (.osl 3 1 a.length) (some 3) 4 [(3, a.map (D.int .i64)), (2, [.int .u8 p.toNat, .int .u8 q.toNat]), (1, [.sl 1 a.length (a.map (D.int .i64)), .sl 1 b.length (b.map (D.int .i64))]), (0, domA d r h o)] [(63, .osl 3 1 a.length)] rfl rfl (by simp) (by simp [ebW]) rfl (fun E => ?_) ?_
  · unfold domA
    (simp -dsimp only [↓z_ap_cons, ↓z_ap_nil, ↓z_callb, ↓z_evL_cons, ↓evW_tmp, ↓lkW_cons, ↓reduceIte, Nat.reduceEqDiff, ↓z_evL_nil, ↓z_append, ↓y_ty22, ↓z_slTy, ↓z_nint_sl, ↓y_sz3, ↓y_by3, ↓y_zr3, List.length_cons, List.length_nil, Nat.zero_add, ↓z_src_sl, ↓z_app_slx, ↓z_room, maxLen_lit, ↓z_new, ↓z_nm_cons, ↓z_nmC_cons, ↓z_mn'_int, ↓z_nmC_nil, and_self, ↓z_mn'_sl, ↓z_nm_nil, Nat.reduceAdd, Nat.reduceLT, ↓z_pg_cons, ↓z_mn_slx, ↓z_mn_sl, true_and, List.nil_append, reduceCtorEq, false_and, or_false]); (try simp only [Int.toNat_natCast, Nat.mul_one, Bool.or_false, Bool.false_or, Bool.or_self, Bool.or_true])
    exact ⟨by omega, by omega, .inl (by simp [pgW, pE, purge, mn])⟩
  unfold domA
  (simp -dsimp only [↓z_wkE_cons, ↓lkW_cons, Nat.reduceEqDiff, ↓reduceIte, ↓z_wkE_nil, and_self, ↓z_inE_cons, ↓z_memW_cons, ↓z_inE_nil, ↓z_wkO_cons, ↓lkoW_cons, reduceCtorEq, ↓z_wkO_nil, true_and]); (try simp only [Int.toNat_natCast, Nat.mul_one, Bool.or_false, Bool.false_or, Bool.or_self, Bool.or_true])
  refine ch_mk [(64, .sl 1 b.length (b.map (D.int .i64)))] (.osl 3 1 (a.length + b.length)) (some 3) 4 [(3, (a ++ b).map (D.int .i64)), (2, [.int .u8 p.toNat, .int .u8 q.toNat]), (1, [.sl 1 a.length (a.map (D.int .i64)), .sl 1 b.length (b.map (D.int .i64))]), (0, domA d r h o)] [(65, .osl 3 1 (a.length + b.length))] rfl rfl (by simp) (by simp [ebW]) rfl (fun E => ?_) ?_
  · unfold domA
    (simp -dsimp only [↓z_ap_cons, ↓z_ap_nil, ↓z_callb, ↓z_evL_cons, ↓evW_tmp, ↓lkW_cons, ↓reduceIte, Nat.reduceEqDiff, ↓z_evL_nil, ↓z_append, ↓y_ty22, ↓z_slTy, ↓z_nint_sl, ↓y_sz3, ↓y_by3, ↓y_zr3, List.length_cons, List.length_nil, Nat.zero_add, ↓z_src_sl, ↓z_app_osl, ↓lkoW_cons, List.length_map, Nat.mul_one, ↓z_nmC_int, Nat.reduceLT, ↓z_room, maxLen_lit, ↓z_pgo_cons, ↓z_pgc_nm, ↓z_nmC_cons, ↓z_mn'_int, ↓z_nmC_nil, and_self, ↓z_mn'_sl, ↓z_pgo_nil, ↓z_pg_cons, ↓z_mn_osl, ↓z_mn_sl, ↓z_so_cons, true_and]); (try simp only [Int.toNat_natCast, Nat.mul_one, Bool.or_false, Bool.false_or, Bool.or_self, Bool.or_true])
    exact ⟨by omega, by omega, by simp [pgW, pE, purge, mn]⟩
  unfold domA
  (simp -dsimp only [↓z_wkE_cons, ↓lkW_cons, Nat.reduceEqDiff, ↓reduceIte, ↓z_wkE_nil, and_self, ↓z_inE_cons, ↓z_memW_cons, ↓z_inE_nil, ↓z_wkO_cons, ↓lkoW_cons, reduceCtorEq, ↓z_wkO_nil, true_and]); (try simp only [Int.toNat_natCast, Nat.mul_one, Bool.or_false, Bool.false_or, Bool.or_self, Bool.or_true])
  refine ch_end ?_
  (simp -dsimp only [↓z_ap_cons, ↓z_ap_nil, List.drop_succ_cons, List.drop_zero, ↓z_seq, ↓z_region, ↓z_ops_plain, ↓z_move, ↓z_binOp, ↓evW_const, ↓constW_int, inR_i64, Int.reduceNeg, Int.reduceLE, and_self, ↓z_ops_guard, ↓z_pick, ↓constW_bool, ↓z_load, ↓y_ty25, ↓y_sz25, ↓z_agTy_st, ↓z_callv, ↓evW_func, ↓z_evL_cons, ↓z_evL_nil, ↓z_fun0, ↓z_coeL_cons, ↓z_coeL_nil, ↓z_ops_nil, ↓z_seq_nrm, ↓z_cond, ↓z_assign, ↓z_ret, ↓z_seq_rt, ↓z_end_rt, resLW, res1W, ↓z_pack1, ↓z_skip, true_and, ↓evW_tmp, ↓lkW_cons, Nat.reduceEqDiff, ↓reduceIte, ↓z_coe_oag, ↓z_coeC_cons, ↓z_coeS_sl, ↓z_coeS_int, ↓z_coeC_nil, ↓z_coe_int, ↓z_coe_sl, ↓z_coe_osl, ↓lkoW_cons, ↓z_allP_int, List.length_map, List.length_append, Nat.mul_one]); (try simp only [Int.toNat_natCast, Nat.mul_one, Bool.or_false, Bool.false_or, Bool.or_self, Bool.or_true])
  refine call_fnL ((fn_Left G d r h o v l (a ++ b)).inp (by unfold domA; rw [List.length_append])) rfl fun _ => ?_
  have hab := left_both (d := d) (r := r) (h := h) (o := o) (lv := v) hl24 a b
  have w1 : bits .andNot .i64 (leftN d r h o v l a : Int) (leftN d r h o v l [] : Int) = 0 := by
    rw [i64_andNot_nat _ _ (by omega) (by omega), andNot_zero (by omega) (left_sub hl24 a)]; rfl
  have w2 : bits .andNot .i64 (leftN d r h o v l (a ++ b) : Int) (leftN d r h o v l a : Int) = 0 := by
    rw [i64_andNot_nat _ _ (by omega) (by omega), andNot_zero (by omega) fun i hi => ?_]; rfl
    rw [hab, Nat.testBit_and, Bool.and_eq_true] at hi; exact hi.1
  have w3 : bits .and .i64 (leftN d r h o v l a : Int) (leftN d r h o v l b : Int) = (leftN d r h o v l (a ++ b) : Int) := by
    rw [i64_and_nat _ _ (by omega) (by omega), hab]
  (simp -dsimp only [↓z_put, Nat.reduceLT, ↓z_ops_plain, ↓z_assign, ↓evW_tmp, ↓lkW_cons, ↓reduceIte, ↓z_ops_nil, ↓z_seq_nrm, Nat.reduceEqDiff, ↓z_bn_andNot, ↓z_bn_neq, ↓z_grd, ↓z_dst_s, ↓z_dst_0, ↓z_grdD_b, ↓z_gdf, w1, ne_eq, not_true_eq_false, ↓z_gff, ↓z_pick_b, ↓z_gft, w2, ↓loadW_ptr, ↓lkoW_cons, reduceCtorEq, ↓z_rd_t, Nat.zero_add, List.length_cons, List.length_nil, Nat.reduceAdd, Nat.reduceLeDiff, ↓z_sub_c, ↓z_sub_nil, ↓z_coe_oag, ↓z_coeC_cons, ↓z_coeS_sl, ↓z_coeS_int, ↓z_coeC_nil, ↓z_coe_int, ↓z_coe_sl, true_and]); (try simp only [Int.toNat_natCast, Nat.mul_one, Bool.or_false, Bool.false_or, Bool.or_self, Bool.or_true])
  refine call_fn (fn_Left G d r h o v l b) fun _ => ?_
  (simp -dsimp only [↓z_put, Nat.reduceLT, ↓z_ops_guard, ↓z_grd, ↓z_dst_s, ↓z_dst_0, ↓lkW_cons, Nat.reduceEqDiff, ↓reduceIte, ↓z_grdD_b, ↓z_gff, ↓z_binOp, ↓evW_tmp, ↓z_bn_and, ↓z_bn_neq, ↓z_ops_plain, ↓z_pick, ↓z_pick_b, ↓z_gft, ↓z_ops_nil, ↓z_seq_nrm, ↓z_cond, ↓z_cnd, ↓z_gdt, w3, ne_eq, not_true_eq_false, ↓z_skip, ↓z_seq, ↓z_region, ↓z_load, ↓y_ty25, ↓y_sz25, ↓z_agTy_st, ↓loadW_ptr, ↓lkoW_cons, reduceCtorEq, ↓z_rd_t, Nat.zero_add, List.length_cons, List.length_nil, Nat.reduceAdd, Nat.reduceLeDiff, ↓z_sub_c, ↓z_sub_nil, ↓z_move, ↓z_callv, ↓evW_func, ↓z_evL_cons, ↓z_evL_nil, ↓z_fun0, ↓z_coeL_cons, ↓z_coe_oag, ↓z_coeC_cons, ↓z_coeS_sl, ↓z_coeS_int, ↓z_coeC_nil, ↓z_coe_int, ↓z_coeL_nil, true_and]); (try simp only [Int.toNat_natCast, Nat.mul_one, Bool.or_false, Bool.false_or, Bool.or_self, Bool.or_true])
  refine call_fn (fn_Size G d r h o v) fun _ => ?_
  have hs0 := size_0 (d := d) (r := r) (h := h) (o := o) (lv := v)
  (simp -dsimp only [↓z_put, Nat.reduceLT, ↓z_ops_plain, ↓z_assign, ↓evW_tmp, ↓lkW_cons, ↓reduceIte, ↓z_ops_nil, ↓z_seq_nrm, ↓z_seq, ↓z_region, ↓z_move, ↓z_binOp, ↓evW_const, ↓constW_int, inR_i64, Int.reduceNeg, Int.reduceLE, and_self, ↓z_bn_eql, ↓z_cond, ↓z_cnd, ↓z_gdt, ↓z_callv, ↓evW_func, ↓z_evL_nil, ↓z_fun0, ↓z_coeL_nil, ↓z_skip, ↓z_indexAddr, Nat.reduceEqDiff, ↓y_ty39, ↓z_elTy_arr, ↓y_sz5, ↓z_ix_ptr, ↓z_load, ↓y_ty5, ↓z_agTy_int, ↓loadW_ptr, ↓lkoW_cons, ↓z_rd_f, ↓nthW_cons, Int.reduceToNat, Nat.mul_one, Nat.zero_add, reduceCtorEq, Nat.reduceSub, ↓z_convert, ↓y_ty3, ↓z_cvt_int, ↓z_cv_int, ↓z_cvi_u8_i64, ↓z_bn_rem, ↓z_rem_i64, ne_eq, ↓y_ty25, ↓y_sz25, ↓z_agTy_st, ↓z_rd_t, List.length_cons, List.length_nil, Nat.reduceAdd, Nat.reduceLeDiff, ↓z_sub_c, ↓z_sub_nil, ↓z_buildSlice, ↓y_ty22, ↓z_slTy, ↓y_sz3, maxLen_lit, ↓y_zr3, ↓z_repL_s, ↓z_repL_0, ↓z_cat_nil_r, ↓z_bld_cons, ↓z_cl_int, ↓spsW_cons, ↓drW_cons, ↓drW_nil, ↓z_bld_nil, ↓z_allP_cons, ↓z_isP_int, ↓z_allP_nil, ↓z_evL_cons, ↓z_coeL_cons, ↓z_coe_oag, ↓z_coeC_cons, ↓z_coeS_sl, ↓z_coeS_int, ↓z_coeC_nil, ↓z_coe_int, ↓z_coe_sl, ↓z_coe_slx, true_and, z_ite]); (try simp only [Int.toNat_natCast, Nat.mul_one, Bool.or_false, Bool.false_or, Bool.or_self, Bool.or_true])
  refine ⟨fun gs => ?_, fun gs => ?_⟩
  · refine call_fn (fn_sanity G) fun _ => ?_
    rw [left_none hl24 gs]
    (simp -dsimp only [↓z_put, Nat.reduceLT, ↓z_ops_plain, ↓z_move, ↓evW_tmp, ↓lkW_cons, ↓reduceIte, ↓z_ops_guard, ↓z_grd, ↓z_dst_s, ↓z_dst_0, ↓z_grdD_b, ↓z_gtt, Nat.reduceEqDiff, ↓z_binOp, ↓evW_const, ↓constW_int, inR_i64, Int.reduceNeg, Int.reduceLE, and_self, ↓z_bn_eql, ↓z_pick, ↓z_pick_b, ↓z_assign, ↓z_ops_nil, ↓z_seq_nrm, ↓z_ret, ↓z_seq_rt, ↓z_end_rt, resLW, res1W, ne_eq, ↓z_coeL_cons, ↓z_coeL_nil, ↓z_pack1, ↓z_coe_bool, D.bool.injEq, decide_eq_true_eq, true_and]); (try simp only [Int.toNat_natCast, Nat.mul_one, Bool.or_false, Bool.false_or, Bool.or_self, Bool.or_true])
    rfl
  obtain ⟨N, hN⟩ : ∃ N : Nat, sizeD d r h o v = N := ⟨(sizeD d r h o v).toNat, by omega⟩
  have hNp : 0 < N := by omega
  obtain ⟨k, hk, ek⟩ := tmodN (a := q.toNat) hNp
  rw [hN, ek]
  refine ⟨by omega, by omega, ?_⟩
  have bk := left_lt (d := d) (r := r) (h := h) (o := o) (lv := v) (lay := l) (bad := [(k : Int)])
  refine call_fn ((fn_Left G d r h o v l [(k : Int)]).weak (.cons (.refl _) (.cons (.refl _) (.cons (.refl _) (.cons (.slx ..) .nil))))) fun _ => ?_
  (simp -dsimp only [↓z_put, Nat.reduceLT, ↓z_ops_plain, ↓z_assign, ↓evW_tmp, ↓lkW_cons, ↓reduceIte, ↓z_ops_nil, ↓z_seq_nrm, ↓z_seq, ↓z_region, ↓z_load, Nat.reduceEqDiff, ↓y_ty25, ↓y_sz25, ↓z_agTy_st, ↓loadW_ptr, ↓lkoW_cons, reduceCtorEq, ↓z_rd_t, Nat.zero_add, List.length_cons, List.length_nil, Nat.reduceAdd, Nat.reduceLeDiff, ↓z_sub_c, ↓z_sub_nil, ↓z_move, ↓z_callv, ↓evW_func, ↓z_evL_cons, ↓z_evL_nil, ↓z_fun0, ↓z_coeL_cons, ↓z_coe_oag, ↓z_coeC_cons, ↓z_coeS_sl, ↓z_coeS_int, ↓z_coeC_nil, ↓z_coe_int, ↓z_coe_sl, ↓z_coeL_nil, true_and]); (try simp only [Int.toNat_natCast, Nat.mul_one, Bool.or_false, Bool.false_or, Bool.or_self, Bool.or_true])
  refine call_fr (fn_Holds G d r h o v l) fun _ => ?_
  have hz : (holdZ d r h o v l).length = N := by unfold holdZ; rw [holdL_len]; omega
  (simp -dsimp only [↓z_put, Nat.reduceLT, ↓z_ops_plain, ↓z_assign, ↓evW_tmp, ↓lkW_cons, ↓reduceIte, ↓z_ops_nil, ↓z_seq_nrm, ↓z_seq, ↓z_region_d, ↓y_mix, true_and]); (try simp only [Int.toNat_natCast, Nat.mul_one, Bool.or_false, Bool.false_or, Bool.or_self, Bool.or_true])
  refine rgn_d (by decide +kernel) ?_
  (simp -dsimp only [↓z_drw_move, ↓z_drwS, ↓z_grd_none, ↓z_withE, ↓z_rd_tmp, ↓lkW_cons, ↓reduceIte, ↓z_rd_nil, ↓z_ap_cons, ↓z_ap_nil, ↓z_move, ↓evW_tmp, hz, and_true, ↓z_exD_all, ↓z_exD_eq, ↓z_put, Nat.reduceLT, ↓z_drwK, ↓z_drw_callb_len, ↓z_callb, ↓z_evL_cons, ↓z_evL_nil, ↓z_len, ↓y_ty22, ↓z_ln_sl, Nat.reduceEqDiff, ↓z_drw_binOp, ↓z_binOp, ↓z_bn_neq, ne_eq, not_true_eq_false, ↓z_grd, ↓z_dst_s, ↓z_dst_0, ↓z_grdD_b, ↓z_gdf, ↓z_drw_callv, ↓z_gff, ↓z_rd_func, true_and]); (try simp only [Int.toNat_natCast, Nat.mul_one, Bool.or_false, Bool.false_or, Bool.or_self, Bool.or_true])
  refine ex_mk (.int .i64 (cntN 24 (leftN d r h o v l []))) (fun E => by (simp -dsimp only [↓z_ap_cons, ↓z_ap_nil, ↓z_callv, ↓evW_func, ↓z_evL_cons, ↓evW_tmp, ↓lkW_cons, ↓reduceIte, ↓z_evL_nil, ↓z_fun0, ↓z_coeL_cons, ↓z_coe_int, ↓z_coeL_nil]); (try simp only [Int.toNat_natCast, Nat.mul_one, Bool.or_false, Bool.false_or, Bool.or_self, Bool.or_true]); exact call_fn (fn_Count G _ b0) fun _ => ⟨rfl, rfl⟩) ?_
  (simp -dsimp only [↓z_put, Nat.reduceLT, ↓z_drwK, ↓z_drw_move, ↓z_drwS, ↓z_grd, ↓z_dst_s, ↓z_dst_0, ↓lkW_cons, Nat.reduceEqDiff, ↓reduceIte, ↓z_grdD_b, ↓z_gff, ↓z_withE, ↓z_rd_tmp, ↓z_rd_nil, ↓z_ap_cons, ↓z_ap_nil, ↓z_move, ↓evW_tmp, and_true, ↓z_exD_all, ↓z_exD_eq, ↓z_drw_callv, ↓z_rd_func, true_and]); (try simp only [Int.toNat_natCast, Nat.mul_one, Bool.or_false, Bool.false_or, Bool.or_self, Bool.or_true])
  refine ex_mk (.int .i64 (cntN 24 (leftN d r h o v l [(k : Int)]))) (fun E => by (simp -dsimp only [↓z_ap_cons, ↓z_ap_nil, ↓z_callv, ↓evW_func, ↓z_evL_cons, ↓evW_tmp, ↓lkW_cons, ↓reduceIte, ↓z_evL_nil, ↓z_fun0, ↓z_coeL_cons, ↓z_coe_int, ↓z_coeL_nil]); (try simp only [Int.toNat_natCast, Nat.mul_one, Bool.or_false, Bool.false_or, Bool.or_self, Bool.or_true]); exact call_fn (fn_Count G _ bk) fun _ => ⟨rfl, rfl⟩) ?_
  have hcnt := left_count (d := d) (r := r) (h := h) (o := o) (lv := v) hl24 k
  have hcl := holdN_le (d := d) (r := r) (h := h) (o := o) (lv := v) (lay := l) (i := l.length) (x := k)
  have hcb : cntN 24 (leftN d r h o v l [(k : Int)]) ≤ 24 := by
    unfold leftN
    rw [if_neg (by omega), cnt_set hl24]
    exact Nat.le_trans List.countP_le_length (by rw [List.length_range]; exact hl24)
  have hzk : k < (holdZ d r h o v l).length := by omega
  have hzv : (holdZ d r h o v l)[k] = (holdN d r h o v l l.length k : Int) := by
    have e24 : ¬ 24 < l.length := by omega
    simp [holdZ, holdL, e24]
  (simp -dsimp only [↓z_put, Nat.reduceLT, ↓z_drwK, ↓z_drw_binOp, ↓z_drwS, ↓z_grd, ↓z_dst_s, ↓z_dst_0, ↓lkW_cons, Nat.reduceEqDiff, ↓reduceIte, ↓z_grdD_b, ↓z_gff, ↓z_withE, ↓z_rd_tmp, ↓z_rd_nil, ↓z_ap_cons, ↓z_ap_nil, ↓z_binOp, ↓evW_tmp, ↓z_bn_sub, ↓wrW_i64, inR_i64, Int.reduceNeg, and_true, ↓z_exD_all, ↓z_exD_and, ↓z_exD_eq, ↓z_drw_move, ↓z_move, hz, ↓z_drw_indexAddr, ↓z_indexAddr, ↓y_ty22, ↓z_elTy_sl, ↓y_sz3, ↓z_ix_sl, Nat.mul_one, true_and, ↓z_drw_load, ↓z_load, ↓y_ty3, ↓z_agTy_int, ↓loadW_rop, ↓z_rd_f, ↓z_nth_int, ↓z_exD_ex, ↓z_bn_neq, ne_eq, ↓z_drw_pick, ↓z_grd_none, ↓z_rd_const, ↓z_pick, ↓z_pick_b, ↓z_gft, ↓z_drw_nil, ↓z_seq_nrm, ↓z_cond, ↓z_cnd, ↓z_gdt, ↓z_seq, ↓z_region, ↓z_ops_plain, ↓z_assign, ↓evW_const, ↓constW_bool, ↓z_ops_nil, ↓z_ret, ↓z_seq_rt, ↓z_end_rt, resLW, res1W, Int.reduceToNat, Nat.zero_add, ↓z_coeL_cons, ↓z_coeL_nil, ↓z_pack1, ↓z_coe_bool, D.bool.injEq, reduceCtorEq, and_false, ↓z_skip, ↓constW_int, Int.reduceLE, and_self, ↓z_bn_eql, ↓z_callv, ↓evW_func, ↓z_evL_nil, ↓z_fun0, ↓constW_nils, ↓y_ty25, ↓y_sz25, ↓z_agTy_st, ↓loadW_ptr, ↓lkoW_cons, ↓z_rd_t, List.length_cons, List.length_nil, Nat.reduceAdd, Nat.reduceLeDiff, ↓z_sub_c, ↓z_sub_nil, ↓z_evL_cons, ↓z_coe_oag, ↓z_coeC_cons, ↓z_coeS_sl, ↓z_coeS_int, ↓z_coeC_nil, ↓z_coe_int, z_ite, Classical.not_not]); (try simp only [Int.toNat_natCast])
  refine ⟨⟨by omega, by omega⟩, by omega, by omega, hk, fun g => g (by rw [hzv]; omega), fun _ => ⟨fun gv => call_fn (fn_sanity G) fun _ => by (simp -dsimp only [↓z_put, Nat.reduceLT, ↓z_ops_plain, ↓z_assign, ↓evW_tmp, ↓lkW_cons, ↓reduceIte, ↓z_ops_nil, ↓z_seq_nrm, ↓z_ret, ↓z_seq_rt, ↓z_end_rt, resLW, res1W, Int.reduceToNat, Nat.mul_one, Nat.zero_add, ne_eq, ↓z_coeL_cons, ↓z_coeL_nil, ↓z_pack1, ↓z_coe_bool, and_self]); (try simp only [Int.toNat_natCast, Nat.mul_one, Bool.or_false, Bool.false_or, Bool.or_self, Bool.or_true]), fun gv => ?_⟩⟩
  have hv1 : 1 ≤ v := by omega
  have hbel := left_below (d := d) (r := r) (h := h) (o := o) (lv := v) (lay := l) (k := k) hc (by omega) (by omega) hl24 (by omega)
  refine call_fr (fn_Members G d r h o v k) fun _ => ?_
  have hm64 := memZ_64 (d := d) (r := r) (h := h) (o := o) (lv := v) (k := k)
  (simp -dsimp only [↓z_put, Nat.reduceLT, ↓z_ops_plain, ↓z_callb, ↓z_evL_cons, ↓evW_tmp, ↓lkW_cons, ↓reduceIte, ↓z_evL_nil, ↓z_len, ↓y_ty22, ↓z_ln_sl, ↓z_move, ↓evW_const, ↓constW_int, inR_i64, Int.reduceNeg, Int.reduceLE, and_self, ↓z_ops_nil, ↓z_seq_nrm, ↓z_block, ↓z_loop, true_and]); (try simp only [Int.toNat_natCast, Nat.mul_one, Bool.or_false, Bool.false_or, Bool.or_self, Bool.or_true])
  refine hold_intro ⟨[(19, 1)], Nat, fun i => ⟨161, 5, [(137, .int .i64 i), (136, .int .i64 (memZ d r h o v k).length), (135, .sl 1 (memZ d r h o v k).length ((memZ d r h o v k).map (D.int .i64))), (19, .osl 4 1 i), (4, .ptr 0 0), (11, .int .i64 v), (1, .sl 1 l.length (l.map (D.int .i64))), (17, .int .i64 (leftN d r h o v l [(k : Int)]))], [(4, (belZ d r h o v k i).map (D.int .i64)), (0, domA d r h o)]⟩, fun i => i ≤ (memZ d r h o v k).length, fun i => (memZ d r h o v k).length - i, ?_, ?_⟩
  · unfold domA; (simp -dsimp only [↓z_ad_cons, Nat.reduceLT, ↓lkW_cons, Nat.reduceEqDiff, ↓reduceIte, ↓z_nm_cons, ↓z_nmC_int, ↓z_nmC_cons, ↓z_mn'_int, ↓z_nmC_nil, and_self, ↓z_mn'_sl, ↓z_nm_nil, ↓z_pg_cons, ↓z_mn_int, ↓z_mn_sl, ↓z_mn_oag, ↓z_mnL_sl, ↓z_mnL_int, ↓z_mnL_nil, ↓z_mn_nils, ↓z_mn_bool, ↓z_mn_rop, ↓z_mn_slx, ↓z_mn_ptr, ↓z_mn_osl, ↓z_mn_any, reduceCtorEq, ↓z_pg_nil, ↓z_ad_nil, ↓z_wk, ↓z_wkE_cons, D.int.injEq, true_and, D.osl.injEq, ↓z_wkE_nil, and_true, ↓z_wkO_cons, ↓lkoW_cons, ↓z_wkO_nil]); (try simp only [Int.toNat_natCast, Nat.mul_one, Bool.or_false, Bool.false_or, Bool.or_self, Bool.or_true])
    exact ⟨0, by simp [belZ]⟩
  rintro i hi
  have hbl : (belZ d r h o v k i).length = i := by unfold belZ; rw [List.length_map, List.length_take]; omega
  unfold domA
  (simp -dsimp only [↓z_seq, ↓z_region, ↓z_ops_plain, ↓z_binOp, ↓evW_tmp, ↓lkW_cons, ↓reduceIte, Nat.reduceEqDiff, ↓z_bn_lss, ↓z_put, Nat.reduceLT, ↓z_ops_nil, ↓z_seq_nrm, ↓z_cond, ↓z_cnd, ↓z_gdt, ↓z_skip, ↓z_block, ↓z_indexAddr, ↓y_ty22, ↓z_elTy_sl, ↓y_sz3, ↓z_ix_sl, ↓z_load, ↓y_ty3, ↓z_agTy_int, ↓loadW_rop, ↓z_rd_f, ↓z_nth_int, ↓z_assign, ↓z_move, ↓y_ty25, ↓y_sz25, ↓z_agTy_st, ↓loadW_ptr, ↓lkoW_cons, reduceCtorEq, ↓z_rd_t, Nat.zero_add, List.length_cons, List.length_nil, Nat.reduceAdd, Nat.reduceLeDiff, ↓z_sub_c, ↓z_sub_nil, ↓evW_const, ↓constW_int, inR_i64, Int.reduceNeg, Int.reduceLE, and_self, ↓z_bn_sub, ↓wrW_i64, ↓z_callv, ↓evW_func, ↓z_evL_cons, ↓z_evL_nil, ↓z_fun0, ↓z_coeL_cons, ↓z_coe_oag, ↓z_coeC_cons, ↓z_coeS_sl, ↓z_coeS_int, ↓z_coeC_nil, ↓z_coe_int, ↓z_coeL_nil, true_and, Nat.mul_one, ↓z_exit, ↓z_seq_ext, ↓z_lp_ext, ↓z_blk_ext, z_ite]); (try simp only [Int.toNat_natCast])
  refine ⟨fun hlt => ?_, fun hge => ?_⟩
  · have hlt' : i < (memZ d r h o v k).length := by omega
    refine ⟨by omega, by omega, by omega, ⟨by omega, by omega⟩, call_fn (fn_Of G d r h o (v - 1) _) fun _ => ?_⟩
    have e1 : belZ d r h o v k (i + 1) = belZ d r h o v k i ++ [ofD d r h o (v - 1) (memZ d r h o v k)[i]] := by
      unfold belZ; rw [takeS hlt', List.map_append]; rfl
    (simp -dsimp only [↓z_put, Nat.reduceLT, ↓z_ops_plain, ↓z_buildSlice, ↓y_ty22, ↓z_slTy, ↓y_sz3, Nat.mul_one, Nat.reduceLeDiff, maxLen_lit, ↓y_zr3, List.length_cons, List.length_nil, Nat.zero_add, ↓z_repL_s, ↓z_repL_0, ↓z_cat_nil_r, ↓z_bld_cons, ↓evW_tmp, ↓lkW_cons, ↓reduceIte, ↓z_cl_int, ↓spsW_cons, ↓drW_cons, reduceCtorEq, ↓drW_nil, ↓z_bld_nil, ↓z_allP_cons, ↓z_isP_int, ↓z_allP_nil, and_self, ↓z_callb, ↓z_evL_cons, Nat.reduceEqDiff, ↓z_evL_nil, ↓z_append, ↓z_nint_sl, ↓y_by3, ↓z_src_slx, ↓z_app_osl, ↓lkoW_cons, List.length_map, hbl, ↓z_nmC_int, ↓z_room, ↓z_pgo_cons, ↓z_pgc_nm, ↓z_nmC_cons, ↓z_mn'_sl, ↓z_mn'_int, ↓z_nmC_nil, ↓z_pgo_nil, ↓z_pg_cons, ↓z_mn_slx, ↓z_mn_int, ↓z_mn_oag, ↓z_mnL_sl, ↓z_mnL_int, ↓z_mnL_nil, ↓z_mn_osl, ↓z_mn_rop, ↓z_mn_bool, ↓z_mn_sl, ↓z_mn_ptr, ↓z_pg_nil, ↓z_so_cons, ↓z_assign, ↓z_ops_nil, ↓z_blk_nrm, ↓z_seq_nrm, ↓z_region, ↓z_binOp, ↓evW_const, ↓constW_int, inR_i64, Int.reduceNeg, Int.reduceLE, ↓z_bn_add, ↓wrW_i64, ↓z_move, ↓z_lp_nrm, ↓z_wk, ↓z_wkE_cons, D.int.injEq, true_and, D.osl.injEq, ↓z_wkE_nil, and_true, ↓z_wkO_cons, ↓z_wkO_nil]); (try simp only [Int.toNat_natCast, Nat.mul_one, Bool.or_false, Bool.false_or, Bool.or_self, Bool.or_true])
    exact ⟨by omega, by omega, ⟨by omega, by omega⟩, i + 1, by omega, by omega, ⟨by omega, by omega⟩, by rw [e1, List.map_append]; rfl⟩
  · have e : i = (memZ d r h o v k).length := by omega
    rw [e] at hbl ⊢
    refine call_fn (fn_sanity G) fun _ => ?_
    (simp -dsimp only [↓z_put, Nat.reduceLT, ↓z_ops_plain, ↓z_move, ↓evW_tmp, ↓lkW_cons, ↓reduceIte, ↓z_ops_guard, ↓z_grd, ↓z_dst_s, ↓z_dst_0, ↓z_grdD_b, ↓z_gtt, Nat.reduceEqDiff, ↓z_load, ↓y_ty25, ↓y_sz25, ↓z_agTy_st, ↓loadW_ptr, ↓lkoW_cons, reduceCtorEq, ↓z_rd_t, Nat.zero_add, List.length_cons, List.length_nil, Nat.reduceAdd, Nat.reduceLeDiff, ↓z_sub_c, ↓z_sub_nil, ↓z_binOp, ↓evW_const, ↓constW_int, inR_i64, Int.reduceNeg, Int.reduceLE, and_self, ↓z_bn_sub, ↓wrW_i64, ↓z_callv, ↓evW_func, ↓z_evL_cons, ↓z_evL_nil, ↓z_fun0, ↓z_coeL_cons, ↓z_coe_oag, ↓z_coeC_cons, ↓z_coeS_sl, ↓z_coeS_int, ↓z_coeC_nil, ↓z_coe_int, ↓z_coe_sl, ↓z_coe_osl, ↓z_allP_int, List.length_map, hbl, Nat.mul_one, ↓z_coeL_nil, true_and]); (try simp only [Int.toNat_natCast, Nat.mul_one, Bool.or_false, Bool.false_or, Bool.or_self, Bool.or_true])
    refine ⟨⟨by omega, by omega⟩, call_fnL ((fn_Left G d r h o (v - 1) l (belZ d r h o v k (memZ d r h o v k).length)).inp (by unfold domA; rw [hbl])) rfl fun _ => ?_⟩
    (simp -dsimp only [↓z_put, Nat.reduceLT, ↓z_ops_guard, ↓z_grd, ↓z_dst_s, ↓z_dst_0, ↓lkW_cons, Nat.reduceEqDiff, ↓reduceIte, ↓z_grdD_b, ↓z_gtt, ↓z_binOp, ↓evW_tmp, ↓z_bn_eql, ↓z_ops_plain, ↓z_pick, ↓z_pick_b, ↓z_assign, ↓z_ops_nil, ↓z_seq_nrm, ↓z_ret, ↓z_end_rt, resLW, res1W, ↓z_coeL_cons, ↓z_coeL_nil, ↓z_pack1, ↓z_coe_bool, D.bool.injEq, decide_eq_true_eq, true_and]); (try simp only [Int.toNat_natCast, Nat.mul_one, Bool.or_false, Bool.false_or, Bool.or_self, Bool.or_true])
    rw [hbel]
end Go.Abs

