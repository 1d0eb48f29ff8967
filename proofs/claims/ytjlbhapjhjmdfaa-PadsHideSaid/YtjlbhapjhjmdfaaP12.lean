/-
  PAD, twelfth walk: what was covered stays hidden.
-/
import Derived.Test.YtjlbhapjhjmdfaaP9
namespace Go.Abs
open Go.Proofs
theorem sumB_len {a b : List UInt8} (h : a.length = b.length) : (sumB a b).length = a.length := by unfold sumB; rw [List.length_map, List.length_range]; omega
theorem sumB_at {a b : List UInt8} {k : Nat} (h : k < (sumB a b).length) : (sumB a b)[k] = atB a k ^^^ atB b k := by simp [sumB]
theorem sumB_back {a b : List UInt8} (h : b.length = a.length) : sumB b (sumB a b) = a := by
  have hl := sumB_len h.symm
  apply List.ext_getElem
  · rw [sumB_len (by omega)]; omega
  · intro k h1 h2
    rw [sumB_at h1, atB_lt (show k < (sumB a b).length by omega), sumB_at (show k < (sumB a b).length by omega), atB_lt h2]
    rw [UInt8.xor_comm a[k], ← UInt8.xor_assoc, UInt8.xor_self, UInt8.zero_xor]
/-- One cover and one content: what a byte must be. -/
theorem ysA_1 (a b : List UInt8) (k : Nat) : ysA [a] [b] k = [((atB a k ^^^ atB b k).toNat : Int)] := rfl
theorem ysA_2 (a b c d : List UInt8) (k : Nat) : ysA [a, b] [c, d] k = [((atB a k ^^^ atB c k).toNat : Int), ((atB b k ^^^ atB d k).toNat : Int)] := rfl
theorem agI_free (y : UInt8) : agI [(y.toNat : Int)] (-1) = some (y.toNat : Int) := by simp [agI]
theorem agI_same (y : UInt8) : agI [(y.toNat : Int)] (y.toNat : Int) = some (y.toNat : Int) := by simp [agI]
theorem agI_two (y z : UInt8) : agI [(y.toNat : Int), (z.toNat : Int)] (-1) = if y = z then some (z.toNat : Int) else none := by
  by_cases e : y = z
  · subst e; simp [agI]
  · rw [if_neg e]
    have : ¬ (y.toNat : Int) = z.toNat := fun h => e (UInt8.toNat_inj.1 (by omega))
    simp [agI, this]
theorem agO_free (a b : List UInt8) : ∀ (n k : Nat), agO [a] [b] (List.replicate n (-1)) k 0 = some 0
  | 0, k => rfl
  | n + 1, k => by
    rw [List.replicate_succ]
    unfold agO
    rw [if_neg (by omega), ysA_1, agI_free]
    simp only
    rw [if_neg (by omega)]
    exact agO_free a b n (k + 1)
def keyI (p : List UInt8) : List Int := p.map fun y => (y.toNat : Int)
theorem agO_key (a b : List UInt8) : ∀ (n k : Nat), agO [a] [b] ((List.range' k n).map fun i => ((atB a i ^^^ atB b i).toNat : Int)) k 0 = some 0
  | 0, k => rfl
  | n + 1, k => by
    rw [List.range'_succ, List.map_cons]
    unfold agO
    have := (atB a k ^^^ atB b k).toNat_lt
    rw [if_neg (by omega), ysA_1, agI_same]
    simp only
    rw [if_neg (by omega)]
    exact agO_key a b n (k + 1)
theorem agO_two (a b c d : List UInt8) : ∀ (n k : Nat), agO [a, b] [c, d] (List.replicate n (-1)) k 0 = if ∀ i, i < n → atB a (k + i) ^^^ atB c (k + i) = atB b (k + i) ^^^ atB d (k + i) then some 0 else none
  | 0, k => by rw [if_pos (by intro i hi; omega)]; rfl
  | n + 1, k => by
    rw [List.replicate_succ]
    unfold agO
    rw [if_neg (by omega), ysA_2, agI_two]
    by_cases e : atB a k ^^^ atB c k = atB b k ^^^ atB d k
    · rw [if_pos e]
      simp only
      rw [if_neg (by omega), agO_two a b c d n (k + 1)]
      by_cases h : ∀ i, i < n → atB a (k + 1 + i) ^^^ atB c (k + 1 + i) = atB b (k + 1 + i) ^^^ atB d (k + 1 + i)
      · rw [if_pos h, if_pos]
        intro i hi
        cases i with
        | zero => exact e
        | succ i => have := h i (by omega); rw [show k + 1 + i = k + (i + 1) by omega] at this; exact this
      · rw [if_neg h, if_neg]
        intro h2
        exact h fun i hi => by have := h2 (i + 1) (by omega); rw [show k + (i + 1) = k + 1 + i by omega] at this; exact this
    · rw [if_neg e]
      simp only
      rw [if_neg]
      intro h2
      exact e (h2 0 (by omega))
theorem lenA_1 {a b : List UInt8} {n : Nat} (h1 : a.length = n) (h2 : b.length = n) : lenA [a] [b] n = true := by simp [lenA, h1, h2]
theorem lenA_2 {a b c d : List UInt8} {n : Nat} (h1 : a.length = n) (h2 : b.length = n) (h3 : c.length = n) (h4 : d.length = n) : lenA [a, b] [c, d] n = true := by simp [lenA, h1, h2, h3, h4]
theorem agD_free {a b : List UInt8} {n : Nat} (h1 : a.length = n) (h2 : b.length = n) : agD [a] [b] (List.replicate n (-1)) = .tup [.int .i64 0, .bool true] := by
  refine (agD_some ?_).symm
  unfold agP
  rw [if_pos ⟨rfl, by rw [List.length_replicate]; exact lenA_1 h1 h2⟩, agO_free]
theorem keyI_sum {a b : List UInt8} {n : Nat} (h1 : a.length = n) (h2 : b.length = n) : keyI (sumB a b) = (List.range' 0 n).map fun i => ((atB a i ^^^ atB b i).toNat : Int) := by
  unfold keyI sumB
  rw [h1, h2, Nat.max_self, List.map_map, List.range_eq_range']; rfl
theorem agD_key {a b : List UInt8} {n : Nat} (h1 : a.length = n) (h2 : b.length = n) : agD [a] [b] (keyI (sumB a b)) = .tup [.int .i64 0, .bool true] := by
  refine (agD_some ?_).symm
  unfold agP
  rw [if_pos ⟨rfl, by rw [show (keyI (sumB a b)).length = n by unfold keyI; rw [List.length_map, sumB_len (by omega)]; exact h1]; exact lenA_1 h1 h2⟩, keyI_sum h1 h2, agO_key]
theorem sumB_iff {a b c d : List UInt8} {n : Nat} (h1 : a.length = n) (h2 : b.length = n) (h3 : c.length = n) (h4 : d.length = n) : sumB a b = sumB c d ↔ ∀ i, i < n → atB a (0 + i) ^^^ atB c (0 + i) = atB b (0 + i) ^^^ atB d (0 + i) := by
  have key : ∀ x y z w : UInt8, x ^^^ y = z ^^^ w ↔ x ^^^ z = y ^^^ w := by
    have g : ∀ x y z w : UInt8, x ^^^ y = z ^^^ w → x ^^^ z = y ^^^ w := by
      intro x y z w h
      have : x ^^^ y ^^^ (y ^^^ z) = z ^^^ w ^^^ (y ^^^ z) := by rw [h]
      rw [UInt8.xor_assoc, ← UInt8.xor_assoc y y, UInt8.xor_self, UInt8.zero_xor] at this
      rw [this, UInt8.xor_comm z w, UInt8.xor_assoc, UInt8.xor_comm y z, ← UInt8.xor_assoc z z, UInt8.xor_self, UInt8.zero_xor, UInt8.xor_comm]
    exact fun x y z w => ⟨g x y z w, g x z y w⟩
  constructor
  · intro h i hi
    have e1 : (sumB a b)[i]'(by rw [sumB_len (by omega)]; omega) = (sumB c d)[i]'(by rw [sumB_len (by omega)]; omega) := by simp only [h]
    rw [sumB_at, sumB_at] at e1
    rw [Nat.zero_add]
    exact (key _ _ _ _).1 e1
  · intro h
    apply List.ext_getElem
    · rw [sumB_len (by omega), sumB_len (by omega)]; omega
    · intro i hi1 hi2
      rw [sumB_at, sumB_at]
      have := h i (by rw [sumB_len (by omega)] at hi1; omega)
      rw [Nat.zero_add] at this
      exact (key _ _ _ _).2 this
theorem agD_two {a b c d : List UInt8} {n : Nat} (h1 : a.length = n) (h2 : b.length = n) (h3 : c.length = n) (h4 : d.length = n) : agD [a, b] [c, d] (List.replicate n (-1)) = .tup [.int .i64 0, .bool (decide (sumB a b = sumB c d))] := by
  by_cases e : sumB a b = sumB c d
  · rw [decide_eq_true e]
    refine (agD_some ?_).symm
    unfold agP
    rw [if_pos ⟨rfl, by rw [List.length_replicate]; exact lenA_2 h1 h2 h3 h4⟩, agO_two, if_pos ((sumB_iff h1 h2 h3 h4).1 e)]
  · rw [decide_eq_false e]
    refine (agD_none ?_).symm
    unfold agP
    rw [if_pos ⟨rfl, by rw [List.length_replicate]; exact lenA_2 h1 h2 h3 h4⟩, agO_two, if_neg (fun h => e ((sumB_iff h1 h2 h3 h4).2 h))]
/-- What the loop has written. -/
def frK (n k : Nat) : List Int := List.replicate k (-1) ++ List.replicate (n - k) 0
def kyK (p : List UInt8) (k : Nat) : List Int := keyI (p.take k) ++ List.replicate (p.length - k) 0
theorem frK_len {n k : Nat} (h : k ≤ n) : (frK n k).length = n := by simp [frK]; omega
theorem kyK_len {p : List UInt8} {k : Nat} (h : k ≤ p.length) : (kyK p k).length = p.length := by simp [kyK, keyI]; omega
theorem frK_set {n k : Nat} (h : k < n) : (frK n k).set k (-1) = frK n (k + 1) := by
  unfold frK
  rw [List.set_append_right _ _ (by simp), List.length_replicate, Nat.sub_self, show n - k = n - (k + 1) + 1 by omega, List.replicate_succ, List.set_cons_zero, List.replicate_succ', List.append_assoc]; rfl
theorem kyK_set {p : List UInt8} {k : Nat} (h : k < p.length) : (kyK p k).set k (p[k].toNat : Int) = kyK p (k + 1) := by
  unfold kyK
  rw [List.set_append_right _ _ (by simp [keyI]; omega), show p.length - k = p.length - (k + 1) + 1 by omega, List.replicate_succ]
  have e : k - (keyI (p.take k)).length = 0 := by simp [keyI]; omega
  rw [e, List.set_cons_zero]
  have e2 : p.take (k + 1) = p.take k ++ [p[k]] := by simp
  rw [e2]
  unfold keyI
  rw [List.map_append, List.append_assoc]; rfl
theorem frK_0 (n : Nat) : List.replicate n (D.int .i64 0) = (frK n 0).map (D.int .i64) := by simp [frK]
theorem kyK_0 (p : List UInt8) : List.replicate p.length (D.int .i64 0) = (kyK p 0).map (D.int .i64) := by simp [kyK, keyI]
theorem frK_n (n : Nat) : frK n n = List.replicate n (-1) := by simp [frK]
theorem kyK_n (p : List UInt8) : kyK p p.length = keyI p := by simp [kyK]
theorem set_split {α : Type} {l : List α} {i : Nat} {a : α} (h : i < l.length) : List.take i l ++ [a] ++ List.drop (i + 1) l = l.set i a := by
  rw [List.set_eq_take_append_cons_drop, if_pos h]; simp
set_option maxRecDepth 100000 in
set_option maxHeartbeats 16000000 in
theorem fn_law5 (G : Glob) (c o1 o2 : List UInt8) : Fn G Try.prog 5 [.str c, .str o1, .str o2] (.bool true) := by
  refine Fn.mk (c := _) Try.func5 rfl rfl Try.ntmps5 Try.results5 ?_
  (simp -dsimp only [bodyW, List.length_cons, List.length_nil, Nat.zero_add, Nat.reduceAdd, Nat.reduceLeDiff, wfL, ↓z_seq, ↓z_region, ↓z_ops_plain, ↓z_assign, ↓evW_const, ↓constW_bool, ↓z_put, Nat.reduceLT, ↓z_ops_nil, ↓z_seq_nrm, ↓z_move, ↓evW_tmp, ↓lkW_cons, reduceCtorEq, ↓reduceIte, ↓z_lk_env, ↓z_callb, ↓z_evL_cons, ↓z_evL_nil, ↓z_len, ↓y_ty9, ↓z_ln_str, ↓z_binOp, ↓constW_int, inR_i64, Int.reduceNeg, Int.reduceLE, and_self, ↓z_bn_gtr, ↓z_ops_guard, ↓z_grd, ↓z_dst_s, ↓z_dst_0, ↓z_grdD_b, ↓z_gdf, Nat.reduceEqDiff, ↓z_gnf, ↓z_gft, ↓z_pick, ↓z_pick_b, ↓z_gnt, ↓z_gff, ↓z_gtf, ↓z_cond, ↓z_cnd, ↓z_gtt, ↓z_callv, ↓evW_func, ↓z_fun0, ↓z_coeL_nil, true_and, ↓z_bn_neq, ne_eq, ↓z_gdt, ↓z_skip, ↓z_makeSlice, ↓z_mk, ↓y_ty43, ↓z_slTy, ↓y_sz3, ↓y_by3, ↓z_room, maxLen_lit, ↓y_zr3, ↓repW_one, ↓z_new, ↓z_nm_nil, ↓z_pg_cons, ↓z_mn_int, ↓z_mn_str, ↓z_mn_bool, ↓z_pg_env, ↓z_pg_env0, ↓z_nm_cons, ↓z_mn_osl, ↓z_pg_nil, ↓z_coeL_cons, ↓z_coe_str, z_ite, Classical.not_not]); (try simp only [Int.toNat_natCast])
  intro hc h1 h2
  refine ⟨fun _ => call_fn (fn_sanity G) fun _ => (by (simp -dsimp only [↓z_put, Nat.reduceLT, ↓z_ops_plain, ↓z_assign, ↓evW_tmp, ↓lkW_cons, ↓reduceIte, ↓z_ops_nil, ↓z_seq_nrm, ↓z_ret, ↓z_seq_rt, ↓z_end_rt, resLW, res1W, Bool.not_false, ↓z_envF_cons, Nat.zero_add, Nat.reduceAdd, ↓z_envF_nil, ↓z_coeL_cons, ↓z_coeL_nil, ↓z_pack1, ↓z_coe_bool, and_self]); (try simp only [Int.toNat_natCast, Nat.mul_one, Bool.or_false, Bool.false_or, Bool.or_self, Bool.or_true])), fun g0 => ⟨fun _ => call_fn (fn_sanity G) fun _ => (by (simp -dsimp only [↓z_put, Nat.reduceLT, ↓z_ops_plain, ↓z_assign, ↓evW_tmp, ↓lkW_cons, ↓reduceIte, ↓z_ops_nil, ↓z_seq_nrm, ↓z_ret, ↓z_seq_rt, ↓z_end_rt, resLW, res1W, Bool.not_false, ne_eq, ↓z_envF_cons, Nat.zero_add, Nat.reduceAdd, ↓z_envF_nil, ↓z_coeL_cons, ↓z_coeL_nil, ↓z_pack1, ↓z_coe_bool, and_self]); (try simp only [Int.toNat_natCast, Nat.mul_one, Bool.or_false, Bool.false_or, Bool.or_self, Bool.or_true])), fun g1 => ⟨fun _ => call_fn (fn_sanity G) fun _ => (by (simp -dsimp only [↓z_put, Nat.reduceLT, ↓z_ops_plain, ↓z_assign, ↓evW_tmp, ↓lkW_cons, ↓reduceIte, ↓z_ops_nil, ↓z_seq_nrm, ↓z_ret, ↓z_seq_rt, ↓z_end_rt, resLW, res1W, ne_eq, ↓z_envF_cons, Nat.zero_add, Nat.reduceAdd, ↓z_envF_nil, ↓z_coeL_cons, ↓z_coeL_nil, ↓z_pack1, ↓z_coe_bool, and_self]); (try simp only [Int.toNat_natCast, Nat.mul_one, Bool.or_false, Bool.false_or, Bool.or_self, Bool.or_true])), fun g2 => ?_⟩⟩⟩
  have l1 : o1.length = c.length := by omega
  have l2 : o2.length = c.length := by omega
  refine ⟨by omega, by omega, by omega, by omega, by omega, by omega, by rw [frK_0]; (simp -dsimp only [↓z_nmC_int]); (try simp only [Int.toNat_natCast, Nat.mul_one, Bool.or_false, Bool.false_or, Bool.or_self, Bool.or_true]), ?_⟩
  refine call_fn (fn_Sum G c o1 (by omega) (by omega)) fun _ => ?_
  have lp := sumB_len l1.symm
  (simp -dsimp only [↓z_put, Nat.reduceLT, ↓z_ops_plain, ↓z_assign, ↓evW_tmp, ↓lkW_cons, ↓reduceIte, ↓z_ops_nil, ↓z_seq_nrm, ↓z_seq, ↓z_region, ↓z_move, ↓z_callb, ↓z_evL_cons, ↓z_evL_nil, ↓z_len, ↓y_ty9, ↓z_ln_str, reduceCtorEq, ↓z_binOp, Nat.reduceEqDiff, ↓z_bn_neq, ↓z_cond, ↓z_cnd, ↓z_gdt, ne_eq, ↓evW_const, ↓constW_bool, ↓z_ret, ↓z_seq_rt, ↓z_end_rt, resLW, res1W, Nat.zero_add, Nat.reduceAdd, ↓z_coeL_cons, ↓z_coeL_nil, ↓z_pack1, ↓z_coe_bool, D.bool.injEq, true_and, ↓z_skip, ↓y_ty43, ↓z_ln_osl, ↓constW_int, inR_i64, Int.reduceNeg, Int.reduceLE, and_self, ↓z_block, ↓z_loop, z_ite, Classical.not_not]); (try simp only [Int.toNat_natCast, Nat.mul_one, Bool.or_false, Bool.false_or, Bool.or_self, Bool.or_true])
  refine ⟨fun g => absurd (by rw [lp]) g, fun _ => ?_⟩
  have hback := sumB_back l1
  have hcov : coverD o1 (sumB c o1) = .tup [.str c, .int .i64 0] := by unfold coverD; rw [if_pos (by omega), hback]
  have hkey := agD_key (a := c) (b := o1) rfl l1
  generalize hp : sumB c o1 = p at lp hcov hkey
  refine hold_intro ⟨[], Nat, fun k => ⟨161, 2, [(56, .int .i64 k), (55, .int .i64 c.length), (7, .osl 0 1 c.length), (8, .osl 1 1 c.length), (9, .str p), (0, .str c), (1, .str o1), (2, .str o2)], [(1, (kyK p k).map (D.int .i64)), (0, (frK c.length k).map (D.int .i64))]⟩, fun k => k ≤ c.length, fun k => c.length - k, ?_, ?_⟩
  · (simp -dsimp only [↓z_ad_nil, ↓z_wk, ↓z_wkE_cons, ↓lkW_cons, ↓reduceIte, D.int.injEq, true_and, Nat.reduceEqDiff, Nat.zero_add, reduceCtorEq, Nat.reduceAdd, ↓z_wkE_nil, and_self, and_true, ↓z_wkO_cons, ↓lkoW_cons, ↓z_wkO_nil]); (try simp only [Int.toNat_natCast, Nat.mul_one, Bool.or_false, Bool.false_or, Bool.or_self, Bool.or_true])
    exact ⟨0, by omega, rfl, by rw [← lp]; exact kyK_0 p, frK_0 _⟩
  rintro k hk
  have lf := frK_len hk
  have lk' := kyK_len (p := p) (k := k) (by omega)
  (simp -dsimp only [↓z_seq, ↓z_region, ↓z_ops_plain, ↓z_binOp, ↓evW_tmp, ↓lkW_cons, ↓reduceIte, Nat.reduceEqDiff, ↓z_bn_lss, ↓z_put, Nat.reduceLT, ↓z_ops_nil, ↓z_seq_nrm, ↓z_cond, ↓z_cnd, ↓z_gdt, ↓z_skip, ↓z_block, ↓z_move, ↓z_assign, ↓z_region_d, ↓y_mix, true_and, ↓z_exit, ↓z_seq_ext, ↓z_lp_ext, ↓z_blk_ext, reduceCtorEq, ↓z_buildSlice, ↓y_ty22, ↓z_slTy, ↓y_sz9, Nat.mul_one, Nat.reduceLeDiff, maxLen_lit, ↓y_zr9, List.length_cons, List.length_nil, Nat.zero_add, ↓z_repL_s, ↓z_repL_0, ↓z_cat_nil_r, ↓z_bld_cons, ↓z_cl_str, ↓spsW_cons, ↓drW_cons, ↓drW_nil, ↓z_bld_nil, ↓z_allP_cons, ↓z_isP_str, ↓z_allP_nil, and_self, ↓z_callv, ↓evW_func, ↓z_evL_cons, ↓z_evL_nil, ↓z_fun0, ↓z_coeL_cons, ↓z_coe_slx, ↓z_coe_osl, ↓lkoW_cons, ↓z_allP_int, List.length_map, ↓z_coeL_nil, z_ite]); (try simp only [Int.toNat_natCast, Nat.mul_one, Bool.or_false, Bool.false_or, Bool.or_self, Bool.or_true])
  refine ⟨fun hlt => ?_, fun hge => ?_⟩
  · refine rgn_x 10 [0] (by decide +kernel) ?_
    (simp -dsimp only [↓z_nmRE_cons, ↓z_nmR_int, ↓z_nmR_bool, ↓z_nmR_osl, Nat.reduceLT, Nat.reduceLeDiff, or_false, ↓z_nmR_str, ↓z_nmRE_nil, and_self, ↓z_nmRO_cons, ↓z_nmRL_int, ↓z_nmRO_nil, ↓z_splitO_cons, List.mem_cons, reduceCtorEq, List.not_mem_nil, ↓reduceIte, ↓z_splitO_nil, Int.reduceNeg, List.take_succ_cons, List.take_zero, List.drop_succ_cons, List.drop_zero, ↓z_region, ↓z_ops_plain, ↓z_binOp, ↓evW_const, ↓constW_int, inR_i64, Int.reduceLE, ↓z_move, ↓z_ops_nil, ↓z_lp_nrm, true_and, ↓z_seq, ↓z_buildSlice, ↓y_ty22, ↓z_slTy, ↓y_sz9, Nat.mul_one, maxLen_lit, ↓y_zr9, List.length_cons, List.length_nil, Nat.zero_add, ↓z_repL_s, ↓z_repL_0, ↓z_cat_nil_r, ↓z_bld_cons, ↓spsW_cons, ↓drW_cons, ↓drW_nil, ↓z_bld_nil, ↓z_callv, ↓evW_func, ↓z_evL_cons, ↓z_evL_nil, ↓z_fun0, ↓z_coeL_cons, ↓z_coeL_nil, resLW, res1W, ↓z_pack1, ↓z_indexAddr, ↓evW_tmp, ↓y_ty43, ↓z_elTy_sl, ↓y_sz3, ↓z_put, ↓z_store, ↓lkW_cons, Nat.reduceEqDiff, ↓z_put_none, ↓z_blk_nrm, ↓z_seq_nrm, ↓z_drx_move, ↓z_drxS, ↓z_grd_none, ↓z_withE, ↓z_rd_tmp, ↓z_rd_nil, ↓z_ap_cons, ↓z_ap_nil, ↓z_apO_cons, ↓z_apO_nil, and_true, ↓z_exD_all, ↓z_exD_all2, ↓z_exD_eq, ↓z_drxK, ↓z_drx_index, ↓z_index, ↓y_ty9, ↓z_in_str, ↓z_inx_str, ↓z_exD_and, ↓z_exD_ex, ↓z_drx_convert, ↓z_convert, ↓y_ty5, ↓y_ty3, ↓z_cvt_int, ↓z_cv_int, ↓z_cvi_u8_i64, ↓z_drx_indexAddr, ↓z_ix_osl, ↓z_nmR_ptr, ↓z_drx_store, ↓z_ptX, ↓z_noW_nil, ↓z_alW_nil, ↓z_cl_int, ↓z_nmRL_cons, ↓z_nmRL_nil, ↓lkoW_cons, List.length_map, ↓z_spl, ↓z_sps_int, ↓z_so_cons, ↓z_drx_nil, ↓z_store_ptr, ↓z_bn_add, ↓wrW_i64, ↓z_wk, ↓z_wkE_cons, D.int.injEq, ↓z_wkE_nil, ↓z_wkO_cons, ↓z_wkO_nil]); (try simp only [Int.toNat_natCast])
    have hpk : k < p.length := by omega
    refine ⟨by omega, hpk, by omega, by omega, by omega, by omega, by omega, by omega, ⟨by omega, by omega⟩, k + 1, by omega, by omega, by omega, ?_, ?_⟩
    · rw [set_split (by omega), kyK_set hpk]
    · rw [set_split (by omega), frK_set (by omega)]
  · obtain rfl : k = c.length := by omega
    have eky : kyK p c.length = keyI p := by rw [← lp]; exact kyK_n p
    rw [frK_n, eky]
    have lr : (List.replicate c.length (-1 : Int)).length = c.length := by simp
    have lq : (keyI p).length = c.length := by unfold keyI; rw [List.length_map, lp]
    refine ⟨lr, call_fnL (((fn_Agree G [c] [o1] (List.replicate c.length (-1))).out (agD_free rfl l1)).weak (.cons (.slx ..) (.cons (.slx ..) (.cons (.refl _) .nil))) |>.inp (by rw [lr]; rfl)) (by intro d hd; simp at hd; rcases hd with rfl | rfl <;> rfl) fun _ => ?_⟩
    (simp -dsimp only [↓z_put, Nat.reduceLT, ↓z_ops_plain, ↓z_move, ↓evW_tmp, ↓lkW_cons, ↓reduceIte, ↓z_extract, ↓z_ex, ↓nthW_cons, Nat.reduceEqDiff, reduceCtorEq, Nat.reduceSub, ↓z_assign, ↓z_ops_nil, ↓z_seq_nrm, ↓z_seq, ↓z_region, ↓z_buildSlice, ↓y_ty22, ↓z_slTy, ↓y_sz9, Nat.mul_one, Nat.reduceLeDiff, maxLen_lit, ↓y_zr9, List.length_cons, List.length_nil, Nat.zero_add, ↓z_repL_s, ↓z_repL_0, ↓z_cat_nil_r, ↓z_bld_cons, ↓z_cl_str, ↓spsW_cons, ↓drW_cons, ↓drW_nil, ↓z_bld_nil, ↓z_allP_cons, ↓z_isP_str, ↓z_allP_nil, and_self, ↓z_callv, ↓evW_func, ↓z_evL_cons, ↓z_evL_nil, ↓z_fun0, ↓z_coeL_cons, ↓z_coe_slx, ↓z_coe_osl, ↓lkoW_cons, ↓z_allP_int, Int.reduceNeg, List.length_map, lr, ↓z_coeL_nil, true_and]); (try simp only [Int.toNat_natCast, Nat.mul_one, Bool.or_false, Bool.false_or, Bool.or_self, Bool.or_true])
    refine call_fnL (((fn_Agree G [c] [o2] (List.replicate c.length (-1))).out (agD_free rfl l2)).weak (.cons (.slx ..) (.cons (.slx ..) (.cons (.refl _) .nil))) |>.inp (by rw [lr]; rfl)) (by intro d hd; simp at hd; rcases hd with rfl | rfl <;> rfl) fun _ => ?_
    (simp -dsimp only [↓z_put, Nat.reduceLT, ↓z_ops_plain, ↓z_move, ↓evW_tmp, ↓lkW_cons, ↓reduceIte, ↓z_extract, ↓z_ex, ↓nthW_cons, Nat.reduceEqDiff, reduceCtorEq, Nat.reduceSub, ↓z_assign, ↓z_ops_nil, ↓z_seq_nrm, ↓z_seq, ↓z_region, ↓z_buildSlice, ↓y_ty22, ↓z_slTy, ↓y_sz9, Nat.mul_one, Nat.reduceLeDiff, maxLen_lit, ↓y_zr9, List.length_cons, List.length_nil, Nat.zero_add, ↓z_repL_s, ↓z_repL_0, ↓z_cat_nil_r, ↓z_bld_cons, ↓z_cl_str, ↓spsW_cons, ↓drW_cons, ↓drW_nil, ↓z_bld_nil, ↓z_allP_cons, ↓z_isP_str, ↓z_allP_nil, and_self, ↓z_callv, ↓evW_func, ↓z_evL_cons, ↓z_evL_nil, ↓z_fun0, ↓z_coeL_cons, ↓z_coe_slx, ↓z_coe_osl, ↓lkoW_cons, ↓z_allP_int, List.length_map, lq, ↓z_coeL_nil, true_and]); (try simp only [Int.toNat_natCast, Nat.mul_one, Bool.or_false, Bool.false_or, Bool.or_self, Bool.or_true])
    refine call_fnL (((fn_Agree G [c] [o1] (keyI p)).out (hkey)).weak (.cons (.slx ..) (.cons (.slx ..) (.cons (.refl _) .nil))) |>.inp (by rw [lq]; rfl)) (by intro d hd; simp at hd; rcases hd with rfl | rfl <;> rfl) fun _ => ?_
    (simp -dsimp only [↓z_put, Nat.reduceLT, ↓z_ops_plain, ↓z_move, ↓evW_tmp, ↓lkW_cons, ↓reduceIte, ↓z_extract, ↓z_ex, ↓nthW_cons, Nat.reduceEqDiff, reduceCtorEq, Nat.reduceSub, ↓z_assign, ↓z_ops_nil, ↓z_seq_nrm, ↓z_seq, ↓z_region, ↓z_callv, ↓evW_func, ↓z_evL_cons, ↓z_evL_nil, ↓z_fun0, ↓z_coeL_cons, ↓z_coe_str, ↓z_coeL_nil, true_and]); (try simp only [Int.toNat_natCast, Nat.mul_one, Bool.or_false, Bool.false_or, Bool.or_self, Bool.or_true])
    refine call_fn ((fn_Cover G o1 p (by omega)).out hcov) fun _ => ?_
    (simp -dsimp only [↓z_put, Nat.reduceLT, ↓z_ops_plain, ↓z_move, ↓evW_tmp, ↓lkW_cons, ↓reduceIte, ↓z_extract, ↓z_ex, ↓nthW_cons, Nat.reduceEqDiff, reduceCtorEq, Nat.reduceSub, ↓z_assign, ↓z_ops_nil, ↓z_seq_nrm, ↓z_seq, ↓z_region, ↓z_buildSlice, ↓y_ty22, ↓z_slTy, ↓y_sz9, Nat.mul_one, Nat.reduceLeDiff, maxLen_lit, ↓y_zr9, List.length_cons, List.length_nil, Nat.zero_add, ↓z_repL_s, ↓z_repL_0, ↓z_cat_nil_r, ↓catW_cons, ↓catW_nil, ↓z_bld_cons, ↓z_cl_str, Nat.reduceAdd, ↓spsW_cons, ↓drW_cons, ↓drW_nil, ↓z_bld_nil, ↓z_allP_cons, ↓z_isP_str, ↓z_allP_nil, and_self, ↓z_callv, ↓evW_func, ↓z_evL_cons, ↓z_evL_nil, ↓z_fun0, ↓z_coeL_cons, ↓z_coe_slx, ↓z_coe_osl, ↓lkoW_cons, ↓z_allP_int, Int.reduceNeg, List.length_map, lr, ↓z_coeL_nil, true_and]); (try simp only [Int.toNat_natCast, Nat.mul_one, Bool.or_false, Bool.false_or, Bool.or_self, Bool.or_true])
    refine call_fnL (((fn_Agree G [c, o2] [o1, c] (List.replicate c.length (-1))).out (agD_two rfl l2 l1 rfl)).weak (.cons (.slx ..) (.cons (.slx ..) (.cons (.refl _) .nil))) |>.inp (by rw [lr]; rfl)) (by intro d hd; simp at hd; rcases hd with rfl | rfl <;> rfl) fun _ => ?_
    (simp -dsimp only [↓z_put, Nat.reduceLT, ↓z_ops_plain, ↓z_move, ↓evW_tmp, ↓lkW_cons, ↓reduceIte, ↓z_extract, ↓z_ex, ↓nthW_cons, Nat.reduceEqDiff, reduceCtorEq, Nat.reduceSub, ↓z_assign, ↓z_ops_nil, ↓z_seq_nrm, ↓z_seq, ↓z_region, ↓z_callv, ↓evW_func, ↓z_evL_cons, ↓z_evL_nil, ↓z_fun0, ↓z_coeL_cons, ↓z_coe_str, ↓z_coeL_nil, true_and]); (try simp only [Int.toNat_natCast, Nat.mul_one, Bool.or_false, Bool.false_or, Bool.or_self, Bool.or_true])
    refine call_fn (fn_Sum G c o2 (by omega) (by omega)) fun _ => ?_
    (simp -dsimp only [↓z_put, Nat.reduceLT, ↓z_ops_plain, ↓z_move, ↓evW_tmp, ↓lkW_cons, Nat.reduceEqDiff, ↓reduceIte, reduceCtorEq, ↓z_callv, ↓evW_func, ↓z_evL_cons, ↓z_evL_nil, ↓z_fun0, ↓z_coeL_cons, ↓z_coe_str, ↓z_coeL_nil, true_and]); (try simp only [Int.toNat_natCast, Nat.mul_one, Bool.or_false, Bool.false_or, Bool.or_self, Bool.or_true])
    refine call_fn (fn_Sum G o1 c (by omega) (by omega)) fun _ => ?_
    (simp -dsimp only [↓z_put, Nat.reduceLT, ↓z_ops_plain, ↓z_binOp, ↓evW_tmp, ↓lkW_cons, Nat.reduceEqDiff, ↓reduceIte, ↓z_bn_seql, ↓z_assign, ↓z_ops_nil, ↓z_seq_nrm, ↓z_seq, ↓z_region, ↓z_callv, ↓evW_func, ↓z_evL_nil, ↓z_fun0, ↓z_coeL_nil, true_and]); (try simp only [Int.toNat_natCast, Nat.mul_one, Bool.or_false, Bool.false_or, Bool.or_self, Bool.or_true])
    refine call_fn (fn_sanity G) fun _ => ?_
    (simp -dsimp only [↓z_put, Nat.reduceLT, ↓z_ops_plain, ↓z_move, ↓evW_tmp, ↓lkW_cons, ↓reduceIte, ↓z_ops_guard, ↓z_grd, ↓z_dst_s, ↓z_dst_0, ↓z_grdD_b, ↓z_gtt, Nat.reduceEqDiff, ↓z_binOp, ↓evW_const, ↓constW_int, inR_i64, Int.reduceNeg, Int.reduceLE, and_self, ↓z_bn_eql, ↓z_pick, ↓z_pick_b, ↓z_gdt, reduceCtorEq, ↓z_bn_seql, ↓z_bn_beql, ↓y_ty4, ↓z_boolTy, ↓z_assign, ↓z_ops_nil, ↓z_seq_nrm, ↓z_ret, ↓z_end_rt, resLW, res1W, ↓z_coeL_cons, ↓z_coeL_nil, ↓z_pack1, ↓z_coe_bool, D.bool.injEq, decide_eq_true_eq]); (try simp only [Int.toNat_natCast, Nat.mul_one, Bool.or_false, Bool.false_or, Bool.or_self, Bool.or_true])
end Go.Abs

