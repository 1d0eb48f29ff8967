/-
  WIRE, the laws' walks: round trips.
-/
import Derived.Test.YtkhjapkjhjkdiaaW14
namespace Go.Abs
open Go.Proofs
theorem decL_enc0 {α : Type} {e : α → List UInt8} {dec : List UInt8 → Except Int (α × Nat)} {ok : α → Prop} (hC : Cod e dec ok) {l : List α} (hl : l.length ≤ 1000000) (ho : ∀ x ∈ l, ok x) : decL dec 1 (encL e l) = .ok (l, (encL e l).length) := by
  have := decL_enc hC l hl ho []
  rwa [List.append_nil] at this
set_option maxRecDepth 100000 in
set_option maxHeartbeats 8000000 in
theorem law_6 (G : Glob) (n : Int) (t : List UInt8) : Fn G Try.prog 6 [.int .i64 n, .sl 1 t.length (t.map bD)] (.bool true) := by
  refine Fn.mk (c := _) Try.func6 rfl rfl Try.ntmps6 Try.results6 ?_
  (simp -dsimp only [bodyW, List.length_cons, List.length_nil, Nat.zero_add, Nat.reduceAdd, Nat.reduceLeDiff, wfL, ↓z_seq, ↓z_region, ↓z_ops_plain, ↓z_assign, ↓evW_const, ↓constW_bool, ↓z_put, Nat.reduceLT, ↓z_ops_nil, ↓z_seq_nrm, ↓z_move, ↓evW_tmp, ↓lkW_cons, Nat.reduceEqDiff, ↓reduceIte, ↓z_lk_env, reduceCtorEq, ↓z_callb, ↓z_evL_cons, ↓z_evL_nil, ↓z_len, ↓y_ty28, ↓z_ln_sl, ↓z_binOp, ↓constW_int, inR_i64, Int.reduceNeg, Int.reduceLE, and_self, ↓z_bn_gtr, ↓z_cond, ↓z_cnd, ↓z_gdt, ↓z_callv, ↓evW_func, ↓z_fun0, ↓z_coeL_nil, ↓z_skip, ↓z_coeL_cons, ↓z_coe_int, true_and, z_ite])
  intro h1 h2
  have hr : I64 n := h1.1
  have hl := encI_len hr.1 hr.2
  have hp := encI_pos n
  refine ⟨fun _ => call_fn (fn_sanity G) fun _ => ?_, fun hsm => call_fn (fn_Int G n).fn fun _ => ?_⟩
  · (simp -dsimp only [↓z_put, Nat.reduceLT, ↓z_ops_plain, ↓z_assign, ↓evW_tmp, ↓lkW_cons, ↓reduceIte, ↓z_ops_nil, ↓z_seq_nrm, ↓z_ret, ↓z_seq_rt, ↓z_end_rt, resLW, res1W, ↓z_coeL_cons, ↓z_coeL_nil, ↓z_pack1, ↓z_coe_bool, and_self]); (try simp only [Int.toNat_natCast, Nat.mul_one, Bool.or_false, Bool.false_or, Bool.or_self, Bool.or_true])
  · (simp -dsimp only [↓z_put, Nat.reduceLT, ↓z_ops_plain, ↓z_assign, ↓evW_tmp, ↓lkW_cons, ↓reduceIte, ↓z_ops_nil, ↓z_seq_nrm, ↓z_seq, ↓z_region, ↓z_move, Nat.reduceEqDiff, ↓z_callb, ↓z_evL_cons, ↓z_evL_nil, ↓z_len, ↓y_ty28, ↓z_ln_sl, ↓z_slice, ↓z_evO_none, ↓z_bo_none, ↓z_evO_some, ↓z_bo_some, ↓z_seTy_sl, ↓y_sz5, ↓z_slc_sl_nhm, ↓z_sub_map, ↓z_lk_env, reduceCtorEq, Nat.zero_add, ↓z_append, ↓z_slTy, ↓z_nint_sl, ↓y_by5, ↓y_zr5, List.length_cons, List.length_nil, ↓z_src_sl, ↓z_app_slx, ↓z_room, Nat.mul_one, maxLen_lit, ↓z_new, ↓z_nm_nil, ↓z_pg_cons, ↓z_mn_sl, ↓z_mn_slx, ↓z_mn_int, ↓z_mn_bool, ↓z_pg_env, ↓z_pg_env0, ↓z_callv, ↓evW_func, ↓z_fun0, ↓z_coeL_cons, ↓z_coe_osl, ↓lkoW_cons, ↓z_allP_bytes, List.length_map, ↓z_coeL_nil, true_and, ↓z_allP_app, and_self, List.length_append, List.length_take, List.length_drop, ↓z_coe_sl]); (try simp only [Int.toNat_natCast])
    refine ⟨by omega, by omega, by omega, by omega, .inr (.inr (call_fn ((g24 G (encI n ++ t)).inp (by simp) |>.out (d' := .tup [.int .i64 n, .int .i64 (encI n).length, .int .i64 0]) (by rw [decI_enc hr]; rfl)) fun _ => ?_))⟩
    (simp -dsimp only [↓z_put, Nat.reduceLT, ↓z_ops_plain, ↓z_move, ↓evW_tmp, ↓lkW_cons, ↓reduceIte, ↓z_extract, ↓z_ex, ↓nthW_cons, Nat.reduceEqDiff, reduceCtorEq, Nat.reduceSub, ↓z_assign, ↓z_ops_nil, ↓z_seq_nrm, ↓z_seq, ↓z_region, ↓z_callv, ↓evW_func, ↓z_evL_nil, ↓z_fun0, ↓z_coeL_nil, true_and]); (try simp only [Int.toNat_natCast, Nat.mul_one, Bool.or_false, Bool.false_or, Bool.or_self, Bool.or_true])
    refine call_fn (fn_sanity G) fun _ => ?_
    (simp -dsimp only [↓z_put, Nat.reduceLT, ↓z_ops_plain, ↓z_move, ↓evW_tmp, ↓lkW_cons, ↓reduceIte, ↓z_ops_guard, ↓z_grd, ↓z_dst_s, ↓z_dst_0, ↓z_grdD_b, ↓z_gtt, Nat.reduceEqDiff, reduceCtorEq, ↓z_lk_env, ↓z_binOp, ↓z_bn_eql, ↓z_pick, ↓z_pick_b, ↓z_gdt, ↓z_callb, ↓z_evL_cons, ↓z_evL_nil, ↓z_len, ↓y_ty28, ↓z_ln_sl, ↓evW_const, ↓constW_int, inR_i64, Int.reduceNeg, Int.reduceLE, and_self, ↓z_bn_geq, ↓z_bn_leq, ↓z_assign, ↓z_ops_nil, ↓z_seq_nrm, ↓z_ret, ↓z_end_rt, resLW, res1W, Nat.mul_one, ↓z_coeL_cons, ↓z_coeL_nil, ↓z_pack1, ↓z_coe_bool, D.bool.injEq, decide_eq_true_eq, true_and, ↓z_gnt, ↓z_gtf, ↓constW_bool, Bool.not_true, z_ite]); (try simp only [Int.toNat_natCast, Nat.mul_one, Bool.or_false, Bool.false_or, Bool.or_self, Bool.or_true])
    exact ⟨fun _ => by omega, fun h => absurd (by omega) h⟩
set_option maxRecDepth 100000 in
set_option maxHeartbeats 8000000 in
theorem law_10 (G : Glob) (s : List UInt8) (l : List Int) (hs : s.length ≤ 140737488351232) (hl : l.length ≤ 140737488351232) : Fn G Try.prog 10 [.str s, .sl 1 l.length (l.map (D.int .i64))] (.bool true) := by
  refine Fn.mk (c := _) Try.func10 rfl rfl Try.ntmps10 Try.results10 ?_
  (simp -dsimp only [bodyW, List.length_cons, List.length_nil, Nat.zero_add, Nat.reduceAdd, Nat.reduceLeDiff, wfL, ↓z_seq, ↓z_region, ↓z_ops_plain, ↓z_assign, ↓evW_const, ↓constW_bool, ↓z_put, Nat.reduceLT, ↓z_ops_nil, ↓z_seq_nrm, ↓z_move, ↓evW_tmp, ↓lkW_cons, reduceCtorEq, ↓reduceIte, ↓z_lk_env, ↓z_callb, ↓z_evL_cons, ↓z_evL_nil, ↓z_len, ↓y_ty9, ↓z_ln_str, Nat.reduceEqDiff, ↓y_ty22, ↓z_ln_sl, ↓z_binOp, ↓z_bn_add, ↓wrW_i64, inR_i64, Int.reduceNeg, ↓constW_int, Int.reduceLE, and_self, ↓z_bn_gtr, ↓z_cond, ↓z_cnd, ↓z_gdt, ↓z_callv, ↓evW_func, ↓z_fun0, ↓z_coeL_nil, ↓z_skip, ↓z_coeL_cons, ↓z_coe_str, true_and, z_ite])
  intro h1 h2
  refine ⟨by omega, fun _ => call_fn (fn_sanity G) fun _ => ?_, fun hsm => call_own (fn_Bytes G s (by omega)) fun _ => ?_⟩
  · (simp -dsimp only [↓z_put, Nat.reduceLT, ↓z_ops_plain, ↓z_assign, ↓evW_tmp, ↓lkW_cons, ↓reduceIte, ↓z_ops_nil, ↓z_seq_nrm, ↓z_ret, ↓z_seq_rt, ↓z_end_rt, resLW, res1W, ↓z_coeL_cons, ↓z_coeL_nil, ↓z_pack1, ↓z_coe_bool, and_self]); (try simp only [Int.toNat_natCast, Nat.mul_one, Bool.or_false, Bool.false_or, Bool.or_self, Bool.or_true])
  · (simp -dsimp only [↓z_new, ↓z_nm_nil, ↓z_pg_cons, ↓z_mn_str, ↓z_mn_bool, ↓z_mn_int, ↓z_mn_sl, ↓z_pg_env, ↓z_pg_env0, ↓z_put, Nat.reduceLT, ↓z_ops_plain, ↓z_move, ↓evW_tmp, ↓lkW_cons, Nat.reduceEqDiff, ↓reduceIte, reduceCtorEq, Nat.zero_add, ↓z_callv, ↓evW_func, ↓z_evL_cons, ↓z_evL_nil, ↓z_fun0, ↓z_coeL_cons, ↓z_coe_sl, ↓z_coeL_nil, true_and])
    have hI : ∀ x ∈ l, I64 x := fun x hx => wf_ints h2 x hx
    have eI : ∀ x ∈ l, (encI x).length ≤ 10000 := fun x hx => Nat.le_trans (encI_len (hI x hx).1 (hI x hx).2) (by decide)
    have lB := encB_len (s := s) (by omega)
    have lL : (encL encI l).length ≤ 10 + l.length * 10 := by
      have h1 := encI_len (v := l.length) (by omega) (by omega)
      have h2 := flatMap_len encI 10 l fun x hx => encI_len (hI x hx).1 (hI x hx).2
      unfold encL; rw [List.length_append]; omega
    refine call_fn ((fn_Ints G l (by omega) eI).fn) fun _ => ?_
    (simp -dsimp only [↓z_put, Nat.reduceLT, ↓z_ops_plain, ↓z_callb, ↓z_evL_cons, ↓evW_tmp, ↓lkW_cons, Nat.reduceEqDiff, ↓reduceIte, ↓z_evL_nil, ↓z_append, ↓y_ty28, ↓z_slTy, ↓z_nint_sl, ↓y_sz5, ↓y_by5, ↓y_zr5, List.length_cons, List.length_nil, Nat.zero_add, ↓z_src_sl, ↓z_app_osl, ↓lkoW_cons, List.length_map, Nat.mul_one, ↓z_room, maxLen_lit, ↓z_nm_cons, ↓z_nmC_bytes, ↓z_nm_nil, ↓z_pg_cons, ↓z_mn_sl, ↓z_mn_osl, ↓z_mn_str, ↓z_mn_bool, ↓z_mn_int, ↓z_pg_nil, ↓z_so_cons, ↓z_assign, ↓z_ops_nil, ↓z_seq_nrm, ↓z_seq, ↓z_region, ↓z_move, ↓z_callv, ↓evW_func, ↓z_fun0, ↓z_coeL_cons, ↓z_coe_osl, ↓z_allP_app, ↓z_allP_bytes, and_self, List.length_append, ↓z_coeL_nil, true_and])
    refine ⟨by omega, by omega, call_frz 0 ?_⟩
    (simp -dsimp only [↓z_frzW, ↓lkoW_cons, ↓reduceIte, ↓z_allP_app, ↓z_allP_bytes, and_self, ↓z_frzE_cons, ↓z_fz_osl, List.length_append, List.length_map, Nat.mul_one, ↓z_fz_sl, ↓z_fz_any, ↓z_fz_str, ↓z_fz_bool, ↓z_fz_int, ↓z_frzE_nil, ↓z_frzO_cons, ↓z_frzO_nil, true_and])
    refine call0_fnL (((g26 G (encB s ++ encL encI l)).inp (by simp)).out (d' := .tup [.str s, .int .i64 (encB s).length, .int .i64 0]) (by rw [Cod_str.enc (show s.length ≤ 1000000 by omega)]; rfl)) (by simp [flD, flA, flS]) fun _ => ?_
    (simp -dsimp only [↓z_put, Nat.reduceLT, ↓z_ops_plain, ↓z_move, ↓evW_tmp, ↓lkW_cons, ↓reduceIte, ↓z_extract, ↓z_ex, ↓nthW_cons, Nat.reduceEqDiff, reduceCtorEq, Nat.reduceSub, ↓z_assign, ↓z_ops_nil, ↓z_seq_nrm, ↓z_seq, ↓z_region, ↓z_binOp, ↓evW_const, ↓constW_int, inR_i64, Int.reduceNeg, Int.reduceLE, and_self, ↓z_bn_neq, ↓z_ops_guard, ↓z_grd, ↓z_dst_s, ↓z_dst_0, ↓z_grdD_b, ↓z_gdf, ne_eq, not_true_eq_false, ↓z_gff, ↓z_bn_lss, ↓z_pick, ↓z_pick_b, ↓z_gft, ↓z_gnf, ↓z_gnt, ↓constW_bool, ↓z_cond, ↓z_cnd, ↓z_gtt, ↓z_ret, ↓z_seq_rt, ↓z_end_rt, resLW, res1W, Bool.not_false, Nat.zero_add, ↓z_coeL_cons, ↓z_coeL_nil, ↓z_pack1, ↓z_coe_bool, D.bool.injEq, true_and, ↓z_callb, ↓z_evL_cons, ↓z_evL_nil, ↓z_len, ↓y_ty28, ↓z_ln_sl, ↓z_bn_gtr, ↓z_gdt, ↓z_skip, ↓z_slice, ↓z_evO_some, ↓z_bo_some, ↓z_evO_none, ↓z_bo_none, ↓z_seTy_sl, ↓y_sz5, ↓z_slc_sl_ln, Nat.mul_one, ↓z_callv, ↓evW_func, ↓z_fun0, ↓z_coe_sl, z_sub, z_ite]); (try simp only [Int.toNat_natCast])
    have hlB := encB_pos s
    refine ⟨fun h => by omega, fun _ => ⟨fun h => by omega, fun _ => ⟨by omega, by omega, ?_⟩⟩⟩
    refine call_fn (((g28 G (encL encI l) (by omega)).inp (by simp; rw [List.take_of_length_le (by simp)])).out (d' := .tup [.sl 1 l.length (l.map (D.int .i64)), .int .i64 (encL encI l).length, .int .i64 0]) (by rw [decL_enc0 Cod_int (by omega) hI]; rfl)) fun _ => ?_
    (simp -dsimp only [↓z_put, Nat.reduceLT, ↓z_ops_plain, ↓z_move, ↓evW_tmp, ↓lkW_cons, ↓reduceIte, ↓z_extract, ↓z_ex, ↓nthW_cons, Nat.reduceEqDiff, reduceCtorEq, Nat.reduceSub, ↓z_assign, ↓z_ops_nil, ↓z_seq_nrm, ↓z_seq, ↓z_region, ↓z_callv, ↓evW_func, ↓z_evL_nil, ↓z_fun0, ↓z_coeL_nil, true_and]); (try simp only [Int.toNat_natCast, Nat.mul_one, Bool.or_false, Bool.false_or, Bool.or_self, Bool.or_true])
    refine call_fn (fn_sanity G) fun _ => ?_
    (simp -dsimp only [↓z_put, Nat.reduceLT, ↓z_ops_plain, ↓z_move, ↓evW_tmp, ↓lkW_cons, ↓reduceIte, ↓z_ops_guard, ↓z_grd, ↓z_dst_s, ↓z_dst_0, ↓z_grdD_b, ↓z_gtt, Nat.reduceEqDiff, reduceCtorEq, ↓z_binOp, ↓z_bn_seql, ↓z_pick, ↓z_pick_b, ↓z_gdt, Nat.zero_add, ↓z_callv, ↓evW_func, ↓z_evL_cons, ↓z_evL_nil, ↓z_fun0, ↓z_coeL_cons, ↓z_coe_sl, ↓z_coeL_nil, true_and]); (try simp only [Int.toNat_natCast, Nat.mul_one, Bool.or_false, Bool.false_or, Bool.or_self, Bool.or_true])
    refine call_fn ((fn_SameInts_sl G l l).out (d' := .bool true) (by simp)) fun _ => ?_
    (simp -dsimp only [↓z_put, Nat.reduceLT, ↓z_ops_plain, ↓z_pick, ↓evW_tmp, ↓lkW_cons, Nat.reduceEqDiff, ↓reduceIte, ↓z_pick_b, ↓z_gtt, ↓z_move, ↓z_ops_guard, ↓z_grd, ↓z_dst_s, ↓z_dst_0, ↓z_grdD_b, ↓z_binOp, ↓evW_const, ↓constW_int, inR_i64, Int.reduceNeg, Int.reduceLE, and_self, ↓z_bn_eql, ↓z_gdt, ↓z_bn_add, ↓wrW_i64, ↓z_callb, ↓z_evL_cons, ↓z_evL_nil, ↓z_len, ↓y_ty28, ↓z_ln_sl, ↓z_assign, ↓z_ops_nil, ↓z_seq_nrm, ↓z_ret, ↓z_end_rt, resLW, res1W, ne_eq, not_true_eq_false, Nat.zero_add, ↓z_coeL_cons, ↓z_coeL_nil, ↓z_pack1, ↓z_coe_bool, D.bool.injEq, decide_eq_true_eq, true_and]); (try simp only [Int.toNat_natCast, Nat.mul_one, Bool.or_false, Bool.false_or, Bool.or_self, Bool.or_true])
    exact ⟨⟨by omega, by omega⟩, by omega⟩

set_option maxRecDepth 100000 in
set_option maxHeartbeats 8000000 in
theorem law_8 (G : Glob) (s : List UInt8) (l : List Int) (x : List (List UInt8)) (m : Nat) (B t : List UInt8) (hs : s.length ≤ 140737488351232) (hl : l.length ≤ 140737488351232) (hm : m ≤ 140737488351232) (ht : t.length ≤ 140737488351232) (hB : B.length = m * 16) (hx : x.length + lens x ≤ 1000000000) :
    Fn G Try.prog 8 [.str s, .sl 1 l.length (l.map (D.int .i64)), .sl 1 x.length (x.map D.str), .sl 16 m (B.map bD), .sl 1 t.length (t.map bD)] (.bool true) := by
  refine Fn.mk (c := _) Try.func8 rfl rfl Try.ntmps8 Try.results8 ?_
  (simp -dsimp only [bodyW, List.length_cons, List.length_nil, Nat.zero_add, Nat.reduceAdd, Nat.reduceLeDiff, wfL, ↓z_seq, ↓z_region, ↓z_ops_plain, ↓z_assign, ↓evW_const, ↓constW_bool, ↓z_put, Nat.reduceLT, ↓z_ops_nil, ↓z_seq_nrm, ↓z_move, ↓evW_tmp, ↓lkW_cons, reduceCtorEq, ↓reduceIte, ↓z_lk_env, ↓z_callb, ↓z_evL_cons, ↓z_evL_nil, ↓z_len, ↓y_ty9, ↓z_ln_str, Nat.reduceEqDiff, ↓y_ty22, ↓z_ln_sl, ↓z_binOp, ↓z_bn_add, ↓wrW_i64, inR_i64, Int.reduceNeg, ↓y_ty24, ↓y_ty28, ↓constW_int, Int.reduceLE, and_self, ↓z_bn_gtr, ↓z_ops_guard, ↓z_grd, ↓z_dst_s, ↓z_dst_0, ↓z_grdD_b, ↓z_gdf, ↓z_gnf, ↓z_gft, ↓z_pick, ↓z_pick_b, ↓z_gnt, ↓z_gff, ↓z_cond, ↓z_cnd, ↓z_gtt, ↓z_callv, ↓evW_func, ↓z_fun0, ↓z_coeL_nil, true_and, ↓z_coeL_cons, ↓z_coe_sl, z_ite])
  intro h1 h2 h3 h4 h5
  refine ⟨by omega, by omega, by omega, fun _ => call_fn (fn_sanity G) fun _ => ?_, fun hsm => call_fn (fn_few G x hx) fun _ => ?_⟩
  · (simp -dsimp only [↓z_put, Nat.reduceLT, ↓z_ops_plain, ↓z_assign, ↓evW_tmp, ↓lkW_cons, ↓reduceIte, ↓z_ops_nil, ↓z_seq_nrm, ↓z_ret, ↓z_seq_rt, ↓z_end_rt, resLW, res1W, Bool.not_false, ↓z_coeL_cons, ↓z_coeL_nil, ↓z_pack1, ↓z_coe_bool, and_self]); (try simp only [Int.toNat_natCast, Nat.mul_one, Bool.or_false, Bool.false_or, Bool.or_self, Bool.or_true])
  have b1 : s.length ≤ 2000 := by omega
  have b2 : l.length ≤ 2000 := by omega
  have b3 : m ≤ 2000 := by omega
  have b4 : t.length ≤ 2000 := by omega
  have hI : ∀ x ∈ l, I64 x := fun x hx => wf_ints h2 x hx
  have eI : ∀ x ∈ l, (encI x).length ≤ 10000 := fun x hx => Nat.le_trans (encI_len (hI x hx).1 (hI x hx).2) (by decide)
  by_cases hf : x.length + lens x ≤ 2000
  · have eL : ∀ y ∈ x, y.length ≤ 2000 := fun y hy => by have := mem_lens hy; omega
    have eS : ∀ y ∈ x, (encB y).length ≤ 10000 := fun y hy => by have := eL y hy; have := encB_len (s := y) (by omega); omega
    have eT : ∀ y ∈ x, y.length ≤ 1000000 := fun y hy => by have := eL y hy; omega
    have lB := encB_len (s := s) (by omega)
    have lL : (encL encI l).length ≤ 30000 := by
      have h1 := encI_len (v := l.length) (by omega) (by omega)
      have h2 := flatMap_len encI 10 l fun x hx => encI_len (hI x hx).1 (hI x hx).2
      unfold encL; rw [List.length_append]; omega
    have lD : (encD m B).length ≤ 40000 := by
      have h1 := encI_len (v := m) (by omega) (by omega)
      unfold encD; rw [List.length_append]; omega
    have lS : (encL encB x).length ≤ 30000 := by
      have h1 := encI_len (v := x.length) (by omega) (by omega)
      have h2 : (x.flatMap encB).length ≤ x.length * 10 + lens x := by
        have : ∀ y : List (List UInt8), (∀ z ∈ y, z.length ≤ 2000) → (y.flatMap encB).length ≤ y.length * 10 + lens y := by
          intro y
          induction y with
          | nil => simp
          | cons z r ih =>
            intro hz
            have h1 := ih fun w hw => hz w (by simp [hw])
            have h2 := encB_len (s := z) (by have := hz z (by simp); omega)
            have e : lens (z :: r) = z.length + lens r := by simp [lens]
            rw [List.flatMap_cons, List.length_append, List.length_cons, e]; omega
        exact this x eL
      unfold encL; rw [List.length_append]; omega
    (simp -dsimp only [↓z_put, Nat.reduceLT, ↓z_ops_guard, ↓z_grd, ↓z_dst_s, ↓z_dst_0, ↓lkW_cons, Nat.reduceEqDiff, ↓reduceIte, ↓z_grdD_b, ↓z_gff, ↓z_unOp, ↓evW_tmp, ↓z_un_not, ↓z_ops_plain, ↓z_pick, ↓z_pick_b, ↓z_gft, ↓z_ops_nil, ↓z_seq_nrm, ↓z_cond, ↓z_cnd, ↓z_gnt, ↓z_gdf, hf, ↓z_skip, ↓z_seq, ↓z_region, ↓z_move, reduceCtorEq, ↓z_lk_env, ↓z_callv, ↓evW_func, ↓z_evL_cons, ↓z_evL_nil, ↓z_fun0, ↓z_coeL_cons, ↓z_coe_str, ↓z_coeL_nil, true_and])
    refine call_fn (fn_Bytes G s (by omega)).fn fun _ => ?_
    (simp -dsimp only [↓z_put, Nat.reduceLT, ↓z_ops_plain, ↓z_move, ↓evW_tmp, ↓lkW_cons, Nat.reduceEqDiff, ↓reduceIte, ↓z_lk_env, reduceCtorEq, Nat.zero_add, ↓z_callv, ↓evW_func, ↓z_evL_cons, ↓z_evL_nil, ↓z_fun0, ↓z_coeL_cons, ↓z_coe_sl, ↓z_coeL_nil, true_and])
    refine call_fn (fn_Ints G l (by omega) eI).fn fun _ => ?_
    (simp -dsimp only [↓z_put, Nat.reduceLT, ↓z_ops_plain, ↓z_move, ↓evW_tmp, ↓lkW_cons, Nat.reduceEqDiff, ↓reduceIte, ↓z_lk_env, reduceCtorEq, Nat.zero_add, Nat.reduceAdd, ↓z_callv, ↓evW_func, ↓z_evL_cons, ↓z_evL_nil, ↓z_fun0, ↓z_coeL_cons, ↓z_coe_sl, ↓z_coeL_nil, true_and]); (try simp only [Int.toNat_natCast, Nat.mul_one, Bool.or_false, Bool.false_or, Bool.or_self, Bool.or_true])
    refine call_fn (fn_Digests G m B hB (by omega)).fn fun _ => ?_
    (simp -dsimp only [↓z_put, Nat.reduceLT, ↓z_ops_plain, ↓z_move, ↓evW_tmp, ↓lkW_cons, Nat.reduceEqDiff, ↓reduceIte, ↓z_lk_env, reduceCtorEq, Nat.zero_add, Nat.reduceAdd, ↓z_callv, ↓evW_func, ↓z_evL_cons, ↓z_evL_nil, ↓z_fun0, ↓z_coeL_cons, ↓z_coe_sl, ↓z_coeL_nil, true_and]); (try simp only [Int.toNat_natCast, Nat.mul_one, Bool.or_false, Bool.false_or, Bool.or_self, Bool.or_true])
    refine call_fn (fn_Strings G x (by omega) eS eT).fn fun _ => ?_
    (simp -dsimp only [↓z_put, Nat.reduceLT, ↓z_ops_plain, ↓z_assign, ↓evW_tmp, ↓lkW_cons, Nat.reduceEqDiff, ↓reduceIte, ↓z_ops_nil, ↓z_seq_nrm, ↓z_seq, ↓z_region, ↓z_move, ↓z_callb, ↓z_evL_cons, ↓z_evL_nil, ↓z_len, ↓y_ty28, ↓z_ln_sl, ↓z_slice, ↓z_evO_none, ↓z_bo_none, ↓z_evO_some, ↓z_bo_some, ↓z_seTy_sl, ↓y_sz5, ↓z_slc_sl_nhm, ↓z_sub_map, ↓z_lk_env, reduceCtorEq, Nat.zero_add, Nat.reduceAdd, ↓z_append, ↓z_slTy, ↓z_nint_sl, ↓y_by5, ↓y_zr5, List.length_cons, List.length_nil, ↓z_src_sl, ↓z_app_slx, ↓z_room, Nat.mul_one, maxLen_lit, ↓z_new, ↓z_nm_nil, ↓z_pg_cons, ↓z_mn_sl, ↓z_mn_slx, ↓z_mn_int, ↓z_mn_str, ↓z_mn_bool, ↓z_pg_env, ↓z_pg_env0, ↓z_callv, ↓evW_func, ↓z_fun0, ↓z_coeL_cons, ↓z_coe_osl, ↓lkoW_cons, ↓z_allP_bytes, List.length_map, ↓z_coeL_nil, true_and, ↓z_allP_app, and_self, List.length_append, List.length_take, List.length_drop, ↓z_coe_sl]); (try simp only [Int.toNat_natCast])
    refine ⟨by omega, by omega, by omega, by omega, .inr (.inr (call_fn (((g26 G (encB s ++ t)).inp (by simp)).out (d' := .tup [.str s, .int .i64 (encB s).length, .int .i64 0]) (by rw [Cod_str.enc (show s.length ≤ 1000000 by omega)]; rfl)) fun _ => ?_))⟩
    (simp -dsimp only [↓z_put, Nat.reduceLT, ↓z_ops_plain, ↓z_move, ↓evW_tmp, ↓lkW_cons, ↓reduceIte, ↓z_extract, ↓z_ex, ↓nthW_cons, Nat.reduceEqDiff, reduceCtorEq, Nat.reduceSub, ↓z_assign, ↓z_ops_nil, ↓z_seq_nrm, ↓z_seq, ↓z_region, ↓z_callb, ↓z_evL_cons, ↓z_evL_nil, ↓z_len, ↓y_ty28, ↓z_ln_sl, ↓z_slice, ↓z_evO_none, ↓z_bo_none, ↓z_evO_some, ↓z_bo_some, ↓z_seTy_sl, ↓y_sz5, ↓z_slc_sl_nhm, ↓z_sub_map, ↓z_lk_env, Nat.zero_add, Nat.reduceAdd, ↓z_append, ↓z_slTy, ↓z_nint_sl, ↓y_by5, ↓y_zr5, List.length_cons, List.length_nil, ↓z_src_sl, ↓z_app_slx, ↓z_room, Nat.mul_one, maxLen_lit, ↓z_new, ↓z_nm_nil, ↓z_pg_cons, ↓z_mn_sl, ↓z_mn_slx, ↓z_mn_int, ↓z_mn_str, ↓z_mn_tup, ↓z_mn_bool, ↓z_pg_env, ↓z_pg_env0, ↓z_callv, ↓evW_func, ↓z_fun0, ↓z_coeL_cons, ↓z_coe_osl, ↓lkoW_cons, ↓z_allP_bytes, List.length_map, ↓z_coeL_nil, true_and, ↓z_allP_app, and_self, List.length_append, List.length_take, List.length_drop, ↓z_coe_sl]); (try simp only [Int.toNat_natCast])
    refine ⟨by omega, by omega, by omega, by omega, .inr (.inr (call_fn (((g28 G (encL encI l ++ t) (by rw [List.length_append]; omega)).inp (by simp)).out (d' := .tup [.sl 1 l.length (l.map (D.int .i64)), .int .i64 (encL encI l).length, .int .i64 0]) (by rw [decL_enc Cod_int l (by omega) hI]; rfl)) fun _ => ?_))⟩
    (simp -dsimp only [↓z_put, Nat.reduceLT, ↓z_ops_plain, ↓z_move, ↓evW_tmp, ↓lkW_cons, ↓reduceIte, ↓z_extract, ↓z_ex, ↓nthW_cons, Nat.reduceEqDiff, reduceCtorEq, Nat.reduceSub, ↓z_assign, ↓z_ops_nil, ↓z_seq_nrm, ↓z_seq, ↓z_region, ↓z_callb, ↓z_evL_cons, ↓z_evL_nil, ↓z_len, ↓y_ty28, ↓z_ln_sl, ↓z_slice, ↓z_evO_none, ↓z_bo_none, ↓z_evO_some, ↓z_bo_some, ↓z_seTy_sl, ↓y_sz5, ↓z_slc_sl_nhm, ↓z_sub_map, ↓z_lk_env, Nat.zero_add, Nat.reduceAdd, ↓z_append, ↓z_slTy, ↓z_nint_sl, ↓y_by5, ↓y_zr5, List.length_cons, List.length_nil, ↓z_src_sl, ↓z_app_slx, ↓z_room, Nat.mul_one, maxLen_lit, ↓z_new, ↓z_nm_nil, ↓z_pg_cons, ↓z_mn_sl, ↓z_mn_slx, ↓z_mn_int, ↓z_mn_tup, ↓z_mn_str, ↓z_mn_bool, ↓z_pg_env, ↓z_pg_env0, ↓z_callv, ↓evW_func, ↓z_fun0, ↓z_coeL_cons, ↓z_coe_osl, ↓lkoW_cons, ↓z_allP_bytes, List.length_map, ↓z_coeL_nil, true_and, ↓z_allP_app, and_self, List.length_append, List.length_take, List.length_drop, ↓z_coe_sl]); (try simp only [Int.toNat_natCast])
    refine ⟨by omega, by omega, by omega, by omega, .inr (.inr (call_fn (((g34 G (encD m B ++ t) (by rw [List.length_append]; omega)).inp (by simp)).out (d' := .tup [.sl 16 m (B.map bD), .int .i64 (encD m B).length, .int .i64 0]) (by rw [decD_enc (by omega) hB]; rfl)) fun _ => ?_))⟩
    (simp -dsimp only [↓z_put, Nat.reduceLT, ↓z_ops_plain, ↓z_move, ↓evW_tmp, ↓lkW_cons, ↓reduceIte, ↓z_extract, ↓z_ex, ↓nthW_cons, Nat.reduceEqDiff, reduceCtorEq, Nat.reduceSub, ↓z_assign, ↓z_ops_nil, ↓z_seq_nrm, ↓z_seq, ↓z_region, ↓z_callb, ↓z_evL_cons, ↓z_evL_nil, ↓z_len, ↓y_ty28, ↓z_ln_sl, ↓z_slice, ↓z_evO_none, ↓z_bo_none, ↓z_evO_some, ↓z_bo_some, ↓z_seTy_sl, ↓y_sz5, ↓z_slc_sl_nhm, ↓z_sub_map, ↓z_lk_env, Nat.zero_add, Nat.reduceAdd, ↓z_append, ↓z_slTy, ↓z_nint_sl, ↓y_by5, ↓y_zr5, List.length_cons, List.length_nil, ↓z_src_sl, ↓z_app_slx, ↓z_room, Nat.mul_one, maxLen_lit, ↓z_new, ↓z_nm_nil, ↓z_pg_cons, ↓z_mn_sl, ↓z_mn_slx, ↓z_mn_int, ↓z_mn_tup, ↓z_mn_str, ↓z_mn_bool, ↓z_pg_env, ↓z_pg_env0, ↓z_callv, ↓evW_func, ↓z_fun0, ↓z_coeL_cons, ↓z_coe_osl, ↓lkoW_cons, ↓z_allP_bytes, List.length_map, ↓z_coeL_nil, true_and, ↓z_allP_app, and_self, List.length_append, List.length_take, List.length_drop, ↓z_coe_sl]); (try simp only [Int.toNat_natCast])
    refine ⟨by omega, by omega, by omega, by omega, .inr (.inr (call_fn (((g31 G (encL encB x ++ t) (by rw [List.length_append]; omega)).inp (by simp)).out (d' := .tup [.sl 1 x.length (x.map D.str), .int .i64 (encL encB x).length, .int .i64 0]) (by rw [decL_enc Cod_str x (by omega) eT]; rfl)) fun _ => ?_))⟩
    (simp -dsimp only [↓z_put, Nat.reduceLT, ↓z_ops_plain, ↓z_move, ↓evW_tmp, ↓lkW_cons, ↓reduceIte, ↓z_extract, ↓z_ex, ↓nthW_cons, Nat.reduceEqDiff, reduceCtorEq, Nat.reduceSub, ↓z_assign, ↓z_ops_nil, ↓z_seq_nrm, ↓z_seq, ↓z_region, ↓z_callv, ↓evW_func, ↓z_evL_nil, ↓z_fun0, ↓z_coeL_nil, true_and]); (try simp only [Int.toNat_natCast, Nat.mul_one, Bool.or_false, Bool.false_or, Bool.or_self, Bool.or_true])
    refine call_fn (fn_sanity G) fun _ => ?_
    (simp -dsimp only [↓z_put, Nat.reduceLT, ↓z_ops_plain, ↓z_move, ↓evW_tmp, ↓lkW_cons, ↓reduceIte, ↓z_ops_guard, ↓z_grd, ↓z_dst_s, ↓z_dst_0, ↓z_grdD_b, ↓z_gtt, Nat.reduceEqDiff, ↓z_lk_env, reduceCtorEq, Nat.zero_add, Nat.reduceAdd, ↓z_callv, ↓evW_func, ↓z_evL_cons, ↓z_evL_nil, ↓z_fun0, ↓z_coeL_cons, ↓z_coe_sl, ↓z_coeL_nil, true_and]); (try simp only [Int.toNat_natCast, Nat.mul_one, Bool.or_false, Bool.false_or, Bool.or_self, Bool.or_true])
    refine call_fn ((fn_SameTexts_sl G x x).out (d' := .bool true) (by simp)) fun _ => ?_
    (simp -dsimp only [↓z_put, Nat.reduceLT, ↓z_ops_plain, ↓z_pick, ↓evW_tmp, ↓lkW_cons, Nat.reduceEqDiff, ↓reduceIte, ↓z_pick_b, ↓z_gtt, ↓z_move, ↓z_ops_guard, ↓z_grd, ↓z_dst_s, ↓z_dst_0, ↓z_grdD_b, ↓z_callb, ↓z_evL_cons, ↓z_evL_nil, ↓z_len, ↓y_ty28, ↓z_ln_sl, ↓z_binOp, ↓z_bn_eql, ↓z_gdt, ↓evW_const, ↓constW_int, inR_i64, Int.reduceNeg, Int.reduceLE, and_self, reduceCtorEq, ↓z_lk_env, ↓z_bn_seql, Nat.zero_add, ↓z_callv, ↓evW_func, ↓z_fun0, ↓z_coeL_cons, ↓z_coe_sl, ↓z_coeL_nil, true_and]); (try simp only [Int.toNat_natCast, Nat.mul_one, Bool.or_false, Bool.false_or, Bool.or_self, Bool.or_true])
    refine call_fn ((fn_SameInts_sl G l l).out (d' := .bool true) (by simp)) fun _ => ?_
    (simp -dsimp only [↓z_put, Nat.reduceLT, ↓z_ops_plain, ↓z_pick, ↓evW_tmp, ↓lkW_cons, Nat.reduceEqDiff, ↓reduceIte, ↓z_pick_b, ↓z_gtt, ↓z_move, ↓z_ops_guard, ↓z_grd, ↓z_dst_s, ↓z_dst_0, ↓z_grdD_b, ↓z_callb, ↓z_evL_cons, ↓z_evL_nil, ↓z_len, ↓y_ty28, ↓z_ln_sl, ↓z_binOp, ↓z_bn_eql, ↓z_gdt, ↓evW_const, ↓constW_int, inR_i64, Int.reduceNeg, Int.reduceLE, and_self, ↓z_lk_env, reduceCtorEq, Nat.zero_add, Nat.reduceAdd, ↓z_callv, ↓evW_func, ↓z_fun0, ↓z_coeL_cons, ↓z_coe_sl, ↓z_coeL_nil, true_and]); (try simp only [Int.toNat_natCast, Nat.mul_one, Bool.or_false, Bool.false_or, Bool.or_self, Bool.or_true])
    refine call_fn ((fn_SameDigests_sl G m m B B).out (d' := .bool true) (by simp)) fun _ => ?_
    (simp -dsimp only [↓z_put, Nat.reduceLT, ↓z_ops_plain, ↓z_pick, ↓evW_tmp, ↓lkW_cons, Nat.reduceEqDiff, ↓reduceIte, ↓z_pick_b, ↓z_gtt, ↓z_move, ↓z_ops_guard, ↓z_grd, ↓z_dst_s, ↓z_dst_0, ↓z_grdD_b, ↓z_callb, ↓z_evL_cons, ↓z_evL_nil, ↓z_len, ↓y_ty28, ↓z_ln_sl, ↓z_binOp, ↓z_bn_eql, ↓z_gdt, ↓evW_const, ↓constW_int, inR_i64, Int.reduceNeg, Int.reduceLE, and_self, ↓z_assign, ↓z_ops_nil, ↓z_seq_nrm, ↓z_ret, ↓z_end_rt, resLW, res1W, Nat.mul_one, ↓z_coeL_cons, ↓z_coeL_nil, ↓z_pack1, ↓z_coe_bool, D.bool.injEq, decide_eq_true_eq]); (try simp only [Int.toNat_natCast, Nat.mul_one, Bool.or_false, Bool.false_or, Bool.or_self, Bool.or_true])
  · (simp -dsimp only [↓z_put, Nat.reduceLT, ↓z_ops_guard, ↓z_grd, ↓z_dst_s, ↓z_dst_0, ↓lkW_cons, Nat.reduceEqDiff, ↓reduceIte, ↓z_grdD_b, ↓z_gff, ↓z_unOp, ↓evW_tmp, ↓z_un_not, ↓z_ops_plain, ↓z_pick, ↓z_pick_b, ↓z_gft, ↓z_ops_nil, ↓z_seq_nrm, ↓z_cond, ↓z_cnd, ↓z_gnt, ↓z_gdf, hf, ↓z_seq, ↓z_region, ↓z_callv, ↓evW_func, ↓z_evL_nil, ↓z_fun0, ↓z_coeL_nil, true_and])
    refine call_fn (fn_sanity G) fun _ => ?_
    (simp -dsimp only [↓z_put, Nat.reduceLT, ↓z_ops_plain, ↓z_assign, ↓evW_tmp, ↓lkW_cons, ↓reduceIte, ↓z_ops_nil, ↓z_seq_nrm, ↓z_ret, ↓z_seq_rt, ↓z_end_rt, resLW, res1W, ↓z_coeL_cons, ↓z_coeL_nil, ↓z_pack1, ↓z_coe_bool, and_self]); (try simp only [Int.toNat_natCast, Nat.mul_one, Bool.or_false, Bool.false_or, Bool.or_self, Bool.or_true])
end Go.Abs

