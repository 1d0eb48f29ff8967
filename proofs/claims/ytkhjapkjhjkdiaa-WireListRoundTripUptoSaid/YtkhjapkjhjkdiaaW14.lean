/-
  WIRE, the laws' walks: encoding and decoding as the specification says.
-/
import Derived.Test.YtkhjapkjhjkdiaaW13
namespace Go.Abs
open Go.Proofs

theorem mem_lens {x : List UInt8} : ∀ {l : List (List UInt8)}, x ∈ l → x.length ≤ lens l
  | y :: r, h => by
    have e : lens (y :: r) = y.length + lens r := by simp [lens]
    rcases List.mem_cons.1 h with rfl | h
    · omega
    · have := mem_lens h; omega
theorem same_self {G : Glob} (a : List UInt8) {m n : Nat} : Fn G Try.prog 13 [.sl 1 m (a.map bD), .sl 1 n (a.map bD)] (.bool true) := (fn_Same G a a m n).out (by simp)

set_option maxRecDepth 100000 in
set_option maxHeartbeats 8000000 in
theorem law_3 (G : Glob) (n : Int) (s : List UInt8) (l : List Int) (x : List (List UInt8)) (m : Nat) (B : List UInt8) (hs : s.length ≤ 140737488351232) (hl : l.length ≤ 140737488351232) (hm : m ≤ 140737488351232) (hB : B.length = m * 16) (hx : x.length + lens x ≤ 1000000000) :
    Fn G Try.prog 3 [.int .i64 n, .str s, .sl 1 l.length (l.map (D.int .i64)), .sl 1 x.length (x.map D.str), .sl 16 m (B.map bD)] (.bool true) := by
  refine Fn.mk (c := _) Try.func3 rfl rfl Try.ntmps3 Try.results3 ?_
  (simp -dsimp only [bodyW, List.length_cons, List.length_nil, Nat.zero_add, Nat.reduceAdd, Nat.reduceLeDiff, wfL, ↓z_seq, ↓z_region, ↓z_ops_plain, ↓z_assign, ↓evW_const, ↓constW_bool, ↓z_put, Nat.reduceLT, ↓z_ops_nil, ↓z_seq_nrm, ↓z_move, ↓evW_tmp, ↓lkW_cons, Nat.reduceEqDiff, ↓reduceIte, ↓z_lk_env, reduceCtorEq, ↓z_callb, ↓z_evL_cons, ↓z_evL_nil, ↓z_len, ↓y_ty9, ↓z_ln_str, ↓y_ty22, ↓z_ln_sl, ↓z_binOp, ↓z_bn_add, ↓wrW_i64, inR_i64, Int.reduceNeg, ↓y_ty24, ↓constW_int, Int.reduceLE, and_self, ↓z_bn_gtr, ↓z_ops_guard, ↓z_grd, ↓z_dst_s, ↓z_dst_0, ↓z_grdD_b, ↓z_gdf, ↓z_gnf, ↓z_gft, ↓z_pick, ↓z_pick_b, ↓z_gnt, ↓z_gff, ↓z_cond, ↓z_cnd, ↓z_gtt, ↓z_callv, ↓evW_func, ↓z_fun0, ↓z_coeL_nil, true_and, ↓z_coeL_cons, ↓z_coe_sl, z_ite])
  intro h1 h2 h3 h4 h5
  refine ⟨by omega, by omega, fun hbig => call_fn (fn_sanity G) fun _ => ?_, fun hsm => call_fn (fn_few G x hx) fun _ => ?_⟩
  · (simp -dsimp only [↓z_put, Nat.reduceLT, ↓z_ops_plain, ↓z_assign, ↓evW_tmp, ↓lkW_cons, ↓reduceIte, ↓z_ops_nil, ↓z_seq_nrm, ↓z_ret, ↓z_seq_rt, ↓z_end_rt, resLW, res1W, Bool.not_false, ↓z_coeL_cons, ↓z_coeL_nil, ↓z_pack1, ↓z_coe_bool, and_self]); (try simp only [Int.toNat_natCast, Nat.mul_one, Bool.or_false, Bool.false_or, Bool.or_self, Bool.or_true])
  have hr : I64 n := h1.1
  have b1 : s.length ≤ 2000 := by omega
  have b2 : l.length ≤ 2000 := by omega
  have b3 : m ≤ 2000 := by omega
  have eI : ∀ x ∈ l, (encI x).length ≤ 10000 := fun x hx => Nat.le_trans (encI_len (wf_ints h3 x hx).1 (wf_ints h3 x hx).2) (by decide)
  by_cases hf : x.length + lens x ≤ 2000
  · have eL : ∀ y ∈ x, y.length ≤ 2000 := fun y hy => by have := mem_lens hy; omega
    have eS : ∀ y ∈ x, (encB y).length ≤ 10000 := fun y hy => by have := eL y hy; have := encB_len (s := y) (by omega); omega
    have eT : ∀ y ∈ x, y.length ≤ 1000000 := fun y hy => by have := eL y hy; omega
    (simp -dsimp only [↓z_put, Nat.reduceLT, ↓z_ops_guard, ↓z_grd, ↓z_dst_s, ↓z_dst_0, ↓lkW_cons, Nat.reduceEqDiff, ↓reduceIte, ↓z_grdD_b, ↓z_gff, ↓z_unOp, ↓evW_tmp, ↓z_un_not, ↓z_ops_plain, ↓z_pick, ↓z_pick_b, ↓z_gft, ↓z_ops_nil, ↓z_seq_nrm, ↓z_cond, ↓z_cnd, ↓z_gnt, ↓z_gdf, hf, ↓z_skip, ↓z_seq, ↓z_region, ↓z_callv, ↓evW_func, ↓z_evL_nil, ↓z_fun0, ↓z_coeL_nil, true_and])
    refine call_fn (fn_sanity G) fun _ => ?_
    (simp -dsimp only [↓z_put, Nat.reduceLT, ↓z_ops_plain, ↓z_move, ↓evW_tmp, ↓lkW_cons, ↓reduceIte, ↓z_ops_guard, ↓z_grd, ↓z_dst_s, ↓z_dst_0, ↓z_grdD_b, ↓z_gtt, reduceCtorEq, ↓z_lk_env, Nat.reduceEqDiff, ↓z_callv, ↓evW_func, ↓z_evL_cons, ↓z_evL_nil, ↓z_fun0, ↓z_coeL_cons, ↓z_coe_int, ↓z_coeL_nil, true_and])
    refine call_fn (fn_Int G n).fn fun _ => ?_
    (simp -dsimp only [↓z_put, Nat.reduceLT, ↓z_ops_guard, ↓z_grd, ↓z_dst_s, ↓z_dst_0, ↓lkW_cons, Nat.reduceEqDiff, ↓reduceIte, ↓z_grdD_b, ↓z_gtt, ↓z_move, ↓evW_tmp, reduceCtorEq, ↓z_lk_env, ↓z_callv, ↓evW_func, ↓z_evL_cons, ↓z_evL_nil, ↓z_fun0, ↓z_coeL_cons, ↓z_coe_int, ↓z_coeL_nil, true_and]); (try simp only [Int.toNat_natCast, Nat.mul_one, Bool.or_false, Bool.false_or, Bool.or_self, Bool.or_true])
    refine call_fn (fn_refInt G n).fn fun _ => ?_
    (simp -dsimp only [↓z_put, Nat.reduceLT, ↓z_ops_guard, ↓z_grd, ↓z_dst_s, ↓z_dst_0, ↓lkW_cons, Nat.reduceEqDiff, ↓reduceIte, ↓z_grdD_b, ↓z_gtt, ↓z_callv, ↓evW_func, ↓z_evL_cons, ↓evW_tmp, ↓z_evL_nil, ↓z_fun0, ↓z_coeL_cons, ↓z_coe_sl, ↓z_coeL_nil, true_and]); (try simp only [Int.toNat_natCast, Nat.mul_one, Bool.or_false, Bool.false_or, Bool.or_self, Bool.or_true])
    refine call_fn (same_self (encI n)) fun _ => ?_
    (simp -dsimp only [↓z_put, Nat.reduceLT, ↓z_ops_plain, ↓z_pick, ↓evW_tmp, ↓lkW_cons, Nat.reduceEqDiff, ↓reduceIte, ↓z_pick_b, ↓z_gtt, ↓z_move, ↓z_ops_guard, ↓z_grd, ↓z_dst_s, ↓z_dst_0, ↓z_grdD_b, ↓z_lk_env, reduceCtorEq, Nat.zero_add, ↓z_callv, ↓evW_func, ↓z_evL_cons, ↓z_evL_nil, ↓z_fun0, ↓z_coeL_cons, ↓z_coe_str, ↓z_coeL_nil, true_and]); (try simp only [Int.toNat_natCast, Nat.mul_one, Bool.or_false, Bool.false_or, Bool.or_self, Bool.or_true])
    refine call_fn (fn_Bytes G s (by omega)).fn fun _ => ?_
    (simp -dsimp only [↓z_put, Nat.reduceLT, ↓z_ops_guard, ↓z_grd, ↓z_dst_s, ↓z_dst_0, ↓lkW_cons, Nat.reduceEqDiff, ↓reduceIte, ↓z_grdD_b, ↓z_gtt, ↓z_move, ↓evW_tmp, ↓z_lk_env, reduceCtorEq, Nat.zero_add, ↓z_callv, ↓evW_func, ↓z_evL_cons, ↓z_evL_nil, ↓z_fun0, ↓z_coeL_cons, ↓z_coe_str, ↓z_coeL_nil, true_and]); (try simp only [Int.toNat_natCast, Nat.mul_one, Bool.or_false, Bool.false_or, Bool.or_self, Bool.or_true])
    refine call_fn (fn_refBytes G s (by omega)).fn fun _ => ?_
    (simp -dsimp only [↓z_put, Nat.reduceLT, ↓z_ops_guard, ↓z_grd, ↓z_dst_s, ↓z_dst_0, ↓lkW_cons, Nat.reduceEqDiff, ↓reduceIte, ↓z_grdD_b, ↓z_gtt, ↓z_callv, ↓evW_func, ↓z_evL_cons, ↓evW_tmp, ↓z_evL_nil, ↓z_fun0, ↓z_coeL_cons, ↓z_coe_sl, ↓z_coeL_nil, true_and]); (try simp only [Int.toNat_natCast, Nat.mul_one, Bool.or_false, Bool.false_or, Bool.or_self, Bool.or_true])
    refine call_fn (same_self (encB s)) fun _ => ?_
    (simp -dsimp only [↓z_put, Nat.reduceLT, ↓z_ops_plain, ↓z_pick, ↓evW_tmp, ↓lkW_cons, Nat.reduceEqDiff, ↓reduceIte, ↓z_pick_b, ↓z_gtt, ↓z_move, ↓z_ops_guard, ↓z_grd, ↓z_dst_s, ↓z_dst_0, ↓z_grdD_b, ↓z_lk_env, reduceCtorEq, Nat.zero_add, Nat.reduceAdd, ↓z_callv, ↓evW_func, ↓z_evL_cons, ↓z_evL_nil, ↓z_fun0, ↓z_coeL_cons, ↓z_coe_sl, ↓z_coeL_nil, true_and]); (try simp only [Int.toNat_natCast, Nat.mul_one, Bool.or_false, Bool.false_or, Bool.or_self, Bool.or_true])
    refine call_fn (fn_Ints G l (by omega) eI).fn fun _ => ?_
    (simp -dsimp only [↓z_put, Nat.reduceLT, ↓z_ops_guard, ↓z_grd, ↓z_dst_s, ↓z_dst_0, ↓lkW_cons, Nat.reduceEqDiff, ↓reduceIte, ↓z_grdD_b, ↓z_gtt, ↓z_move, ↓evW_tmp, ↓z_lk_env, reduceCtorEq, Nat.zero_add, Nat.reduceAdd, ↓z_callv, ↓evW_func, ↓z_evL_cons, ↓z_evL_nil, ↓z_fun0, ↓z_coeL_cons, ↓z_coe_sl, ↓z_coeL_nil, true_and]); (try simp only [Int.toNat_natCast, Nat.mul_one, Bool.or_false, Bool.false_or, Bool.or_self, Bool.or_true])
    refine call_fn (fn_refInts G l (by omega) eI).fn fun _ => ?_
    (simp -dsimp only [↓z_put, Nat.reduceLT, ↓z_ops_guard, ↓z_grd, ↓z_dst_s, ↓z_dst_0, ↓lkW_cons, Nat.reduceEqDiff, ↓reduceIte, ↓z_grdD_b, ↓z_gtt, ↓z_callv, ↓evW_func, ↓z_evL_cons, ↓evW_tmp, ↓z_evL_nil, ↓z_fun0, ↓z_coeL_cons, ↓z_coe_sl, ↓z_coeL_nil, true_and]); (try simp only [Int.toNat_natCast, Nat.mul_one, Bool.or_false, Bool.false_or, Bool.or_self, Bool.or_true])
    refine call_fn (same_self (encL encI l)) fun _ => ?_
    (simp -dsimp only [↓z_put, Nat.reduceLT, ↓z_ops_plain, ↓z_pick, ↓evW_tmp, ↓lkW_cons, Nat.reduceEqDiff, ↓reduceIte, ↓z_pick_b, ↓z_gtt, ↓z_move, ↓z_ops_guard, ↓z_grd, ↓z_dst_s, ↓z_dst_0, ↓z_grdD_b, ↓z_lk_env, reduceCtorEq, Nat.zero_add, Nat.reduceAdd, ↓z_callv, ↓evW_func, ↓z_evL_cons, ↓z_evL_nil, ↓z_fun0, ↓z_coeL_cons, ↓z_coe_sl, ↓z_coeL_nil, true_and]); (try simp only [Int.toNat_natCast, Nat.mul_one, Bool.or_false, Bool.false_or, Bool.or_self, Bool.or_true])
    refine call_fn (fn_Strings G x (by omega) eS eT).fn fun _ => ?_
    (simp -dsimp only [↓z_put, Nat.reduceLT, ↓z_ops_guard, ↓z_grd, ↓z_dst_s, ↓z_dst_0, ↓lkW_cons, Nat.reduceEqDiff, ↓reduceIte, ↓z_grdD_b, ↓z_gtt, ↓z_move, ↓evW_tmp, ↓z_lk_env, reduceCtorEq, Nat.zero_add, Nat.reduceAdd, ↓z_callv, ↓evW_func, ↓z_evL_cons, ↓z_evL_nil, ↓z_fun0, ↓z_coeL_cons, ↓z_coe_sl, ↓z_coeL_nil, true_and]); (try simp only [Int.toNat_natCast, Nat.mul_one, Bool.or_false, Bool.false_or, Bool.or_self, Bool.or_true])
    refine call_fn (fn_refStrings G x (by omega) eS eT).fn fun _ => ?_
    (simp -dsimp only [↓z_put, Nat.reduceLT, ↓z_ops_guard, ↓z_grd, ↓z_dst_s, ↓z_dst_0, ↓lkW_cons, Nat.reduceEqDiff, ↓reduceIte, ↓z_grdD_b, ↓z_gtt, ↓z_callv, ↓evW_func, ↓z_evL_cons, ↓evW_tmp, ↓z_evL_nil, ↓z_fun0, ↓z_coeL_cons, ↓z_coe_sl, ↓z_coeL_nil, true_and]); (try simp only [Int.toNat_natCast, Nat.mul_one, Bool.or_false, Bool.false_or, Bool.or_self, Bool.or_true])
    refine call_fn (same_self (encL encB x)) fun _ => ?_
    (simp -dsimp only [↓z_put, Nat.reduceLT, ↓z_ops_plain, ↓z_pick, ↓evW_tmp, ↓lkW_cons, Nat.reduceEqDiff, ↓reduceIte, ↓z_pick_b, ↓z_gtt, ↓z_move, ↓z_ops_guard, ↓z_grd, ↓z_dst_s, ↓z_dst_0, ↓z_grdD_b, ↓z_lk_env, reduceCtorEq, Nat.zero_add, Nat.reduceAdd, ↓z_callv, ↓evW_func, ↓z_evL_cons, ↓z_evL_nil, ↓z_fun0, ↓z_coeL_cons, ↓z_coe_sl, ↓z_coeL_nil, true_and]); (try simp only [Int.toNat_natCast, Nat.mul_one, Bool.or_false, Bool.false_or, Bool.or_self, Bool.or_true])
    refine call_fn (fn_Digests G m B hB (by omega)).fn fun _ => ?_
    (simp -dsimp only [↓z_put, Nat.reduceLT, ↓z_ops_guard, ↓z_grd, ↓z_dst_s, ↓z_dst_0, ↓lkW_cons, Nat.reduceEqDiff, ↓reduceIte, ↓z_grdD_b, ↓z_gtt, ↓z_move, ↓evW_tmp, ↓z_lk_env, reduceCtorEq, Nat.zero_add, Nat.reduceAdd, ↓z_callv, ↓evW_func, ↓z_evL_cons, ↓z_evL_nil, ↓z_fun0, ↓z_coeL_cons, ↓z_coe_sl, ↓z_coeL_nil, true_and]); (try simp only [Int.toNat_natCast, Nat.mul_one, Bool.or_false, Bool.false_or, Bool.or_self, Bool.or_true])
    refine call_fn (fn_refDigests G m B hB (by omega)).fn fun _ => ?_
    (simp -dsimp only [↓z_put, Nat.reduceLT, ↓z_ops_guard, ↓z_grd, ↓z_dst_s, ↓z_dst_0, ↓lkW_cons, Nat.reduceEqDiff, ↓reduceIte, ↓z_grdD_b, ↓z_gtt, ↓z_callv, ↓evW_func, ↓z_evL_cons, ↓evW_tmp, ↓z_evL_nil, ↓z_fun0, ↓z_coeL_cons, ↓z_coe_sl, ↓z_coeL_nil, true_and]); (try simp only [Int.toNat_natCast, Nat.mul_one, Bool.or_false, Bool.false_or, Bool.or_self, Bool.or_true])
    refine call_fn (same_self (encD m B)) fun _ => ?_
    (simp -dsimp only [↓z_put, Nat.reduceLT, ↓z_ops_plain, ↓z_pick, ↓evW_tmp, ↓lkW_cons, Nat.reduceEqDiff, ↓reduceIte, ↓z_pick_b, ↓z_gtt, ↓z_assign, ↓z_ops_nil, ↓z_seq_nrm, ↓z_ret, ↓z_end_rt, resLW, res1W, ↓z_coeL_cons, ↓z_coeL_nil, ↓z_pack1, ↓z_coe_bool, and_self]); (try simp only [Int.toNat_natCast, Nat.mul_one, Bool.or_false, Bool.false_or, Bool.or_self, Bool.or_true])
  · (simp -dsimp only [↓z_put, Nat.reduceLT, ↓z_ops_guard, ↓z_grd, ↓z_dst_s, ↓z_dst_0, ↓lkW_cons, Nat.reduceEqDiff, ↓reduceIte, ↓z_grdD_b, ↓z_gff, ↓z_unOp, ↓evW_tmp, ↓z_un_not, ↓z_ops_plain, ↓z_pick, ↓z_pick_b, ↓z_gft, ↓z_ops_nil, ↓z_seq_nrm, ↓z_cond, ↓z_cnd, ↓z_gnt, ↓z_gdf, hf, ↓z_seq, ↓z_region, ↓z_callv, ↓evW_func, ↓z_evL_nil, ↓z_fun0, ↓z_coeL_nil, true_and])
    refine call_fn (fn_sanity G) fun _ => ?_
    (simp -dsimp only [↓z_put, Nat.reduceLT, ↓z_ops_plain, ↓z_assign, ↓evW_tmp, ↓lkW_cons, ↓reduceIte, ↓z_ops_nil, ↓z_seq_nrm, ↓z_ret, ↓z_seq_rt, ↓z_end_rt, resLW, res1W, ↓z_coeL_cons, ↓z_coeL_nil, ↓z_pack1, ↓z_coe_bool, and_self]); (try simp only [Int.toNat_natCast, Nat.mul_one, Bool.or_false, Bool.false_or, Bool.or_self, Bool.or_true])

/-! ### The three results of a decoding, one by one -/
def vR {α : Type} (z : α) (r : Except Int (α × Nat)) : α := match r with | .ok p => p.1 | .error _ => z
def uR {α : Type} (r : Except Int (α × Nat)) : Nat := match r with | .ok p => p.2 | .error _ => 0
def eR {α : Type} (r : Except Int (α × Nat)) : Int := match r with | .ok _ => 0 | .error e => e
theorem rD_vue {α : Type} (f : α → D) (z : α) (r : Except Int (α × Nat)) : rD f (f z) r = .tup [f (vR z r), .int .i64 (uR r), .int .i64 (eR r)] := by
  cases r with
  | ok p => rfl
  | error e => rfl
theorem Fn.nils {G : Glob} {P : Program} {f : FuncId} {ds : List D} {α : Type} {g : α → D} {z : α} {sz : Nat} {r : Except Int (α × Nat)} (hz : g z = .sl sz 0 []) (h : Fn G P f ds (rD g .nils r)) : Fn G P f ds (.tup [g (vR z r), .int .i64 (uR r), .int .i64 (eR r)]) := by
  rw [← rD_vue]
  cases r with
  | ok p => exact h
  | error e =>
    refine ⟨h.1, fun b0 vs hG ha => (h.2 b0 vs hG ha).mono fun x w' ⟨v, h1, h2, h3⟩ => ⟨v, h1, ?_, h3⟩⟩
    cases h2 with
    | @tup vs ds hl hr =>
      refine .tup hl fun i v d hv hd => ?_
      cases i with
      | zero =>
        simp at hd; subst hd
        rw [hz]
        have := hr 0 v .nils hv rfl
        cases this; exact .sl0 (by simp [maxLen])
      | succ i => exact hr (i + 1) v d hv (by simpa using hd)
section
variable (G : Glob) (b : List UInt8)
theorem g24 : Fn G Try.prog 24 [.sl 1 b.length (b.map bD)] (.tup [.int .i64 (vR 0 (decI b)), .int .i64 (uR (decI b)), .int .i64 (eR (decI b))]) := rD_vue (D.int .i64) 0 (decI b) ▸ fn_GetInt' G b
theorem g25 : Fn G Try.prog 25 [.sl 1 b.length (b.map bD)] (.tup [.int .i64 (vR 0 (decI b)), .int .i64 (uR (decI b)), .int .i64 (eR (decI b))]) := rD_vue (D.int .i64) 0 (decI b) ▸ fn_refGetInt' G b
theorem g26 : Fn G Try.prog 26 [.sl 1 b.length (b.map bD)] (.tup [.str (vR [] (decB b)), .int .i64 (uR (decB b)), .int .i64 (eR (decB b))]) := rD_vue D.str [] (decB b) ▸ fn_GetBytes G b
theorem g27 : Fn G Try.prog 27 [.sl 1 b.length (b.map bD)] (.tup [.str (vR [] (decB b)), .int .i64 (uR (decB b)), .int .i64 (eR (decB b))]) := rD_vue D.str [] (decB b) ▸ fn_refGetBytes G b
variable (hb : b.length ≤ 100000)
include hb
theorem g28 : Fn G Try.prog 28 [.sl 1 b.length (b.map bD)] (.tup [.sl 1 (vR [] (decL decI 1 b)).length ((vR [] (decL decI 1 b)).map (D.int .i64)), .int .i64 (uR (decL decI 1 b)), .int .i64 (eR (decL decI 1 b))]) := (fn_GetInts G b hb).nils (g := fun l : List Int => .sl 1 l.length (l.map (D.int .i64))) (z := []) (sz := 1) rfl
theorem g29 : Fn G Try.prog 29 [.sl 1 b.length (b.map bD)] (.tup [.sl 1 (vR [] (decL decI 1 b)).length ((vR [] (decL decI 1 b)).map (D.int .i64)), .int .i64 (uR (decL decI 1 b)), .int .i64 (eR (decL decI 1 b))]) := (fn_refGetInts G b hb).nils (g := fun l : List Int => .sl 1 l.length (l.map (D.int .i64))) (z := []) (sz := 1) rfl
theorem g31 : Fn G Try.prog 31 [.sl 1 b.length (b.map bD)] (.tup [.sl 1 (vR [] (decL decB 1 b)).length ((vR [] (decL decB 1 b)).map D.str), .int .i64 (uR (decL decB 1 b)), .int .i64 (eR (decL decB 1 b))]) := (fn_GetStrings G b hb).nils (g := fun l : List (List UInt8) => .sl 1 l.length (l.map D.str)) (z := []) (sz := 1) rfl
theorem g32 : Fn G Try.prog 32 [.sl 1 b.length (b.map bD)] (.tup [.sl 1 (vR [] (decL decB 1 b)).length ((vR [] (decL decB 1 b)).map D.str), .int .i64 (uR (decL decB 1 b)), .int .i64 (eR (decL decB 1 b))]) := (fn_refGetStrings G b hb).nils (g := fun l : List (List UInt8) => .sl 1 l.length (l.map D.str)) (z := []) (sz := 1) rfl
theorem g34 : Fn G Try.prog 34 [.sl 1 b.length (b.map bD)] (.tup [.sl 16 (vR (0, []) (decD b)).1 ((vR (0, []) (decD b)).2.map bD), .int .i64 (uR (decD b)), .int .i64 (eR (decD b))]) := (fn_GetDigests G b hb).nils (z := ((0, []) : Nat × List UInt8)) (sz := 16) rfl
theorem g35 : Fn G Try.prog 35 [.sl 1 b.length (b.map bD)] (.tup [.sl 16 (vR (0, []) (decD b)).1 ((vR (0, []) (decD b)).2.map bD), .int .i64 (uR (decD b)), .int .i64 (eR (decD b))]) := (fn_refGetDigests G b hb).nils (z := ((0, []) : Nat × List UInt8)) (sz := 16) rfl
end

set_option maxRecDepth 100000 in
set_option maxHeartbeats 8000000 in
theorem law_4 (G : Glob) (b : List UInt8) : Fn G Try.prog 4 [.sl 1 b.length (b.map bD)] (.bool true) := by
  refine Fn.mk (c := _) Try.func4 rfl rfl Try.ntmps4 Try.results4 ?_
  (simp -dsimp only [bodyW, List.length_cons, List.length_nil, Nat.zero_add, Nat.reduceLeDiff, wfL, ↓z_seq, ↓z_region, ↓z_ops_plain, ↓z_assign, ↓evW_const, ↓constW_bool, ↓z_put, Nat.reduceLT, ↓z_ops_nil, ↓z_seq_nrm, ↓z_move, ↓evW_tmp, ↓lkW_cons, reduceCtorEq, ↓reduceIte, ↓z_lk_env, ↓z_callb, ↓z_evL_cons, ↓z_evL_nil, ↓z_len, ↓y_ty28, ↓z_ln_sl, ↓z_binOp, ↓constW_int, inR_i64, Int.reduceNeg, Int.reduceLE, and_self, ↓z_bn_gtr, ↓z_cond, ↓z_cnd, ↓z_gdt, ↓z_callv, ↓evW_func, ↓z_fun0, ↓z_coeL_nil, ↓z_skip, ↓z_coeL_cons, ↓z_coe_sl, true_and, z_ite])
  intro h1
  refine ⟨fun _ => call_fn (fn_sanity G) fun _ => ?_, fun hsm => ?_⟩
  · (simp -dsimp only [↓z_put, Nat.reduceLT, ↓z_ops_plain, ↓z_assign, ↓evW_tmp, ↓lkW_cons, ↓reduceIte, ↓z_ops_nil, ↓z_seq_nrm, ↓z_ret, ↓z_seq_rt, ↓z_end_rt, resLW, res1W, ↓z_coeL_cons, ↓z_coeL_nil, ↓z_pack1, ↓z_coe_bool, and_self]); (try simp only [Int.toNat_natCast, Nat.mul_one, Bool.or_false, Bool.false_or, Bool.or_self, Bool.or_true])
  have hb : b.length ≤ 100000 := by omega
  refine call_fn (g24 G b) fun _ => ?_
  (simp -dsimp only [↓z_put, Nat.reduceLT, ↓z_ops_plain, ↓z_move, ↓evW_tmp, ↓lkW_cons, ↓reduceIte, ↓z_extract, ↓z_ex, ↓nthW_cons, Nat.reduceEqDiff, reduceCtorEq, Nat.reduceSub, ↓z_assign, ↓z_ops_nil, ↓z_seq_nrm, ↓z_seq, ↓z_region, ↓z_lk_env, ↓z_callv, ↓evW_func, ↓z_evL_cons, ↓z_evL_nil, ↓z_fun0, ↓z_coeL_cons, ↓z_coe_sl, ↓z_coeL_nil, true_and])
  refine call_fn (g25 G b) fun _ => ?_
  (simp -dsimp only [↓z_put, Nat.reduceLT, ↓z_ops_plain, ↓z_move, ↓evW_tmp, ↓lkW_cons, ↓reduceIte, ↓z_extract, ↓z_ex, ↓nthW_cons, Nat.reduceEqDiff, reduceCtorEq, Nat.reduceSub, ↓z_assign, ↓z_ops_nil, ↓z_seq_nrm, ↓z_seq, ↓z_region, ↓z_binOp, ↓z_bn_neq, ↓z_ops_guard, ↓z_grd, ↓z_dst_s, ↓z_dst_0, ↓z_grdD_b, ↓z_gdf, ne_eq, not_true_eq_false, ↓z_gff, ↓z_pick, ↓z_pick_b, ↓z_gft, ↓z_cond, ↓z_cnd, ↓z_gdt, ↓z_skip, ↓z_lk_env, ↓z_callv, ↓evW_func, ↓z_evL_cons, ↓z_evL_nil, ↓z_fun0, ↓z_coeL_cons, ↓z_coe_sl, ↓z_coeL_nil, true_and])
  refine call_fn (g26 G b) fun _ => ?_
  (simp -dsimp only [↓z_put, Nat.reduceLT, ↓z_ops_plain, ↓z_move, ↓evW_tmp, ↓lkW_cons, ↓reduceIte, ↓z_extract, ↓z_ex, ↓nthW_cons, Nat.reduceEqDiff, reduceCtorEq, Nat.reduceSub, ↓z_assign, ↓z_ops_nil, ↓z_seq_nrm, ↓z_seq, ↓z_region, ↓z_lk_env, ↓z_callv, ↓evW_func, ↓z_evL_cons, ↓z_evL_nil, ↓z_fun0, ↓z_coeL_cons, ↓z_coe_sl, ↓z_coeL_nil, true_and]); (try simp only [Int.toNat_natCast, Nat.mul_one, Bool.or_false, Bool.false_or, Bool.or_self, Bool.or_true])
  refine call_fn (g27 G b) fun _ => ?_
  (simp -dsimp only [↓z_put, Nat.reduceLT, ↓z_ops_plain, ↓z_move, ↓evW_tmp, ↓lkW_cons, ↓reduceIte, ↓z_extract, ↓z_ex, ↓nthW_cons, Nat.reduceEqDiff, reduceCtorEq, Nat.reduceSub, ↓z_assign, ↓z_ops_nil, ↓z_seq_nrm, ↓z_seq, ↓z_region, ↓z_binOp, ↓z_bn_sneq, ↓z_ops_guard, ↓z_grd, ↓z_dst_s, ↓z_dst_0, ↓z_grdD_b, ↓z_gdf, ne_eq, not_true_eq_false, ↓z_gff, ↓z_bn_neq, ↓z_pick, ↓z_pick_b, ↓z_gft, ↓z_cond, ↓z_cnd, ↓z_gdt, ↓z_skip, ↓z_lk_env, ↓z_callv, ↓evW_func, ↓z_evL_cons, ↓z_evL_nil, ↓z_fun0, ↓z_coeL_cons, ↓z_coe_sl, ↓z_coeL_nil, true_and]); (try simp only [Int.toNat_natCast, Nat.mul_one, Bool.or_false, Bool.false_or, Bool.or_self, Bool.or_true])
  refine call_fn (g28 G b hb) fun _ => ?_
  (simp -dsimp only [↓z_put, Nat.reduceLT, ↓z_ops_plain, ↓z_move, ↓evW_tmp, ↓lkW_cons, ↓reduceIte, ↓z_extract, ↓z_ex, ↓nthW_cons, Nat.reduceEqDiff, reduceCtorEq, Nat.reduceSub, ↓z_assign, ↓z_ops_nil, ↓z_seq_nrm, ↓z_seq, ↓z_region, ↓z_lk_env, ↓z_callv, ↓evW_func, ↓z_evL_cons, ↓z_evL_nil, ↓z_fun0, ↓z_coeL_cons, ↓z_coe_sl, ↓z_coeL_nil, true_and]); (try simp only [Int.toNat_natCast, Nat.mul_one, Bool.or_false, Bool.false_or, Bool.or_self, Bool.or_true])
  refine call_fn (g29 G b hb) fun _ => ?_
  (simp -dsimp only [↓z_put, Nat.reduceLT, ↓z_ops_plain, ↓z_move, ↓evW_tmp, ↓lkW_cons, ↓reduceIte, ↓z_extract, ↓z_ex, ↓nthW_cons, Nat.reduceEqDiff, reduceCtorEq, Nat.reduceSub, ↓z_assign, ↓z_ops_nil, ↓z_seq_nrm, ↓z_seq, ↓z_region, ↓z_callv, ↓evW_func, ↓z_evL_cons, ↓z_evL_nil, ↓z_fun0, ↓z_coeL_cons, ↓z_coe_sl, ↓z_coeL_nil, true_and]); (try simp only [Int.toNat_natCast, Nat.mul_one, Bool.or_false, Bool.false_or, Bool.or_self, Bool.or_true])
  refine call_fn ((fn_SameInts_sl G _ _).out (d' := .bool true) (by simp)) fun _ => ?_
  (simp -dsimp only [↓z_put, Nat.reduceLT, ↓z_ops_plain, ↓z_unOp, ↓evW_tmp, ↓lkW_cons, ↓reduceIte, ↓z_un_not, ↓z_move, ↓z_ops_guard, ↓z_grd, ↓z_dst_s, ↓z_dst_0, ↓z_grdD_b, ↓z_gnf, ↓z_gtt, Nat.reduceEqDiff, ↓z_gff, ↓z_binOp, ↓z_bn_neq, ↓z_pick, ↓z_pick_b, ↓z_gft, ↓z_gdf, ne_eq, not_true_eq_false, ↓z_ops_nil, ↓z_seq_nrm, ↓z_cond, ↓z_cnd, ↓z_gdt, ↓z_skip, ↓z_seq, ↓z_region, reduceCtorEq, ↓z_lk_env, ↓z_callv, ↓evW_func, ↓z_evL_cons, ↓z_evL_nil, ↓z_fun0, ↓z_coeL_cons, ↓z_coe_sl, ↓z_coeL_nil, true_and]); (try simp only [Int.toNat_natCast, Nat.mul_one, Bool.or_false, Bool.false_or, Bool.or_self, Bool.or_true])
  refine call_fn (g31 G b hb) fun _ => ?_
  (simp -dsimp only [↓z_put, Nat.reduceLT, ↓z_ops_plain, ↓z_move, ↓evW_tmp, ↓lkW_cons, ↓reduceIte, ↓z_extract, ↓z_ex, ↓nthW_cons, Nat.reduceEqDiff, reduceCtorEq, Nat.reduceSub, ↓z_assign, ↓z_ops_nil, ↓z_seq_nrm, ↓z_seq, ↓z_region, ↓z_lk_env, ↓z_callv, ↓evW_func, ↓z_evL_cons, ↓z_evL_nil, ↓z_fun0, ↓z_coeL_cons, ↓z_coe_sl, ↓z_coeL_nil, true_and]); (try simp only [Int.toNat_natCast, Nat.mul_one, Bool.or_false, Bool.false_or, Bool.or_self, Bool.or_true])
  refine call_fn (g32 G b hb) fun _ => ?_
  (simp -dsimp only [↓z_put, Nat.reduceLT, ↓z_ops_plain, ↓z_move, ↓evW_tmp, ↓lkW_cons, ↓reduceIte, ↓z_extract, ↓z_ex, ↓nthW_cons, Nat.reduceEqDiff, reduceCtorEq, Nat.reduceSub, ↓z_assign, ↓z_ops_nil, ↓z_seq_nrm, ↓z_seq, ↓z_region, ↓z_callv, ↓evW_func, ↓z_evL_cons, ↓z_evL_nil, ↓z_fun0, ↓z_coeL_cons, ↓z_coe_sl, ↓z_coeL_nil, true_and]); (try simp only [Int.toNat_natCast, Nat.mul_one, Bool.or_false, Bool.false_or, Bool.or_self, Bool.or_true])
  refine call_fn ((fn_SameTexts_sl G _ _).out (d' := .bool true) (by simp)) fun _ => ?_
  (simp -dsimp only [↓z_put, Nat.reduceLT, ↓z_ops_plain, ↓z_unOp, ↓evW_tmp, ↓lkW_cons, ↓reduceIte, ↓z_un_not, ↓z_move, ↓z_ops_guard, ↓z_grd, ↓z_dst_s, ↓z_dst_0, ↓z_grdD_b, ↓z_gnf, ↓z_gtt, Nat.reduceEqDiff, ↓z_gff, ↓z_binOp, ↓z_bn_neq, ↓z_pick, ↓z_pick_b, ↓z_gft, ↓z_gdf, ne_eq, not_true_eq_false, ↓z_ops_nil, ↓z_seq_nrm, ↓z_cond, ↓z_cnd, ↓z_gdt, ↓z_skip, ↓z_seq, ↓z_region, reduceCtorEq, ↓z_lk_env, ↓z_callv, ↓evW_func, ↓z_evL_cons, ↓z_evL_nil, ↓z_fun0, ↓z_coeL_cons, ↓z_coe_sl, ↓z_coeL_nil, true_and]); (try simp only [Int.toNat_natCast, Nat.mul_one, Bool.or_false, Bool.false_or, Bool.or_self, Bool.or_true])
  refine call_fn (g34 G b hb) fun _ => ?_
  (simp -dsimp only [↓z_put, Nat.reduceLT, ↓z_ops_plain, ↓z_move, ↓evW_tmp, ↓lkW_cons, ↓reduceIte, ↓z_extract, ↓z_ex, ↓nthW_cons, Nat.reduceEqDiff, reduceCtorEq, Nat.reduceSub, ↓z_assign, ↓z_ops_nil, ↓z_seq_nrm, ↓z_seq, ↓z_region, ↓z_lk_env, ↓z_callv, ↓evW_func, ↓z_evL_cons, ↓z_evL_nil, ↓z_fun0, ↓z_coeL_cons, ↓z_coe_sl, ↓z_coeL_nil, true_and]); (try simp only [Int.toNat_natCast, Nat.mul_one, Bool.or_false, Bool.false_or, Bool.or_self, Bool.or_true])
  refine call_fn (g35 G b hb) fun _ => ?_
  (simp -dsimp only [↓z_put, Nat.reduceLT, ↓z_ops_plain, ↓z_move, ↓evW_tmp, ↓lkW_cons, ↓reduceIte, ↓z_extract, ↓z_ex, ↓nthW_cons, Nat.reduceEqDiff, reduceCtorEq, Nat.reduceSub, ↓z_assign, ↓z_ops_nil, ↓z_seq_nrm, ↓z_seq, ↓z_region, ↓z_callv, ↓evW_func, ↓z_evL_nil, ↓z_fun0, ↓z_coeL_nil, true_and]); (try simp only [Int.toNat_natCast, Nat.mul_one, Bool.or_false, Bool.false_or, Bool.or_self, Bool.or_true])
  refine call_fn (fn_sanity G) fun _ => ?_
  (simp -dsimp only [↓z_put, Nat.reduceLT, ↓z_ops_plain, ↓z_move, ↓evW_tmp, ↓lkW_cons, ↓reduceIte, ↓z_ops_guard, ↓z_grd, ↓z_dst_s, ↓z_dst_0, ↓z_grdD_b, ↓z_gtt, Nat.reduceEqDiff, ↓z_callv, ↓evW_func, ↓z_evL_cons, ↓z_evL_nil, ↓z_fun0, ↓z_coeL_cons, ↓z_coe_sl, ↓z_coeL_nil, true_and]); (try simp only [Int.toNat_natCast, Nat.mul_one, Bool.or_false, Bool.false_or, Bool.or_self, Bool.or_true])
  refine call_fn ((fn_SameDigests_sl G _ _ _ _).out (d' := .bool true) (by simp)) fun _ => ?_
  (simp -dsimp only [↓z_put, Nat.reduceLT, ↓z_ops_plain, ↓z_pick, ↓evW_tmp, ↓lkW_cons, Nat.reduceEqDiff, ↓reduceIte, ↓z_pick_b, ↓z_gtt, ↓z_move, ↓z_ops_guard, ↓z_grd, ↓z_dst_s, ↓z_dst_0, ↓z_grdD_b, ↓z_binOp, ↓z_bn_eql, ↓z_gdt, ↓z_assign, ↓z_ops_nil, ↓z_seq_nrm, ↓z_ret, ↓z_end_rt, resLW, res1W, ne_eq, not_true_eq_false, Bool.not_true, ↓z_coeL_cons, ↓z_coeL_nil, ↓z_pack1, ↓z_coe_bool, D.bool.injEq, decide_eq_true_eq, and_self]); (try simp only [Int.toNat_natCast, Nat.mul_one, Bool.or_false, Bool.false_or, Bool.or_self, Bool.or_true])

/-! ### What is decoded was encoded -/
theorem vR_ok {α : Type} {z : α} {r : Except Int (α × Nat)} {x : α} {u : Nat} (h : r = .ok (x, u)) : vR z r = x ∧ uR r = u ∧ eR r = 0 := by subst h; exact ⟨rfl, rfl, rfl⟩
theorem canon_of {α : Type} {z : α} {e : α → List UInt8} {b : List UInt8} {r : Except Int (α × Nat)} (h : ∀ x u, r = .ok (x, u) → e x = b.take u ∧ u ≤ b.length) (he : ∀ e, r = .error e → e ≠ 0) :
    decide (eR r ≠ 0 ∨ (0 : Int) ≤ (uR r : Nat) ∧ ((uR r : Nat) : Int) ≤ (b.length : Int) ∧ e (vR z r) = b.take ((uR r : Nat) : Int).toNat) = true := by
  rw [decide_eq_true_eq]
  cases hr : r with
  | ok p =>
    obtain ⟨h1, h2⟩ := h p.1 p.2 hr
    exact .inr ⟨Int.natCast_nonneg _, by simp [uR]; exact h2, by simp only [uR, vR, Int.toNat_natCast]; exact h1⟩
  | error e => exact .inl (he e hr)
theorem decL_small {α : Type} {e : α → List UInt8} {dec : List UInt8 → Except Int (α × Nat)} {ok : α → Prop} (hC : Cod e dec ok) (hp : ∀ x, 1 ≤ (e x).length) (b : List UInt8) :
    (vR [] (decL dec 1 b)).length ≤ b.length ∧ ∀ x ∈ vR [] (decL dec 1 b), (e x).length ≤ b.length := by
  cases hr : decL dec 1 b with
  | error e => simp [vR]
  | ok p =>
    obtain ⟨l, u⟩ := p
    obtain ⟨h1, h2⟩ := decL_canon hC hr
    have hl : (encL e l).length ≤ b.length := by rw [h1, List.length_take]; omega
    have hf : (l.flatMap e).length ≤ b.length := by unfold encL at hl; rw [List.length_append] at hl; omega
    have key : ∀ l : List α, l.length ≤ (l.flatMap e).length ∧ ∀ x ∈ l, (e x).length ≤ (l.flatMap e).length := by
      intro l
      induction l with
      | nil => simp
      | cons y r ih =>
        have := hp y
        rw [List.flatMap_cons, List.length_append, List.length_cons]
        refine ⟨by omega, fun x hx => ?_⟩
        rcases List.mem_cons.1 hx with rfl | hx
        · omega
        · have := ih.2 x hx; omega
    have := key l
    exact ⟨by simp only [vR]; omega, fun x hx => Nat.le_trans (this.2 x hx) hf⟩
theorem encB_pos (s : List UInt8) : 1 ≤ (encB s).length := by
  have := encI_pos (s.length : Int)
  unfold encB; rw [List.length_append]; omega
theorem encB_ge (s : List UInt8) : s.length ≤ (encB s).length := by unfold encB; rw [List.length_append]; omega
theorem decL_err {α : Type} {dec : List UInt8 → Except Int (α × Nat)} (hD : Dec dec) : ∀ {b : List UInt8} {e : Int}, decL dec 1 b = .error e → e ≠ 0 := by
  intro b e h
  have key : ∀ (n at_ : Nat) (acc : List α), decR dec b n at_ acc = .error e → e ≠ 0 := by
    intro n
    induction n with
    | zero => intro at_ acc h; rw [decR] at h; cases h
    | succ n ih =>
      intro at_ acc h
      rw [decR] at h
      split at h
      · rename_i e' he; cases h; rcases hD.err he with h | h <;> omega
      · exact ih _ _ h
  unfold decL at h
  split at h
  · rename_i e' he; cases h; rcases decN_err he with h | h <;> omega
  · exact key _ _ _ h
theorem decB_small (b : List UInt8) : (vR [] (decB b)).length ≤ b.length := by
  cases hr : decB b with
  | error e => simp [vR]
  | ok p =>
    obtain ⟨h1, h2⟩ := Cod_str.canon hr
    have := encB_ge p.1
    have h3 : (encB p.1).length ≤ b.length := by rw [h1, List.length_take]; omega
    simp only [vR]; omega
theorem decD_small (b : List UInt8) : (vR (0, []) (decD b)).1 ≤ b.length ∧ (vR (0, []) (decD b)).2.length = (vR (0, []) (decD b)).1 * 16 := by
  cases hr : decD b with
  | error e => simp [vR]
  | ok p =>
    obtain ⟨⟨n, B⟩, u⟩ := p
    obtain ⟨h1, h2, h3⟩ := decD_canon hr
    have h4 : (encD n B).length ≤ b.length := by rw [h1, List.length_take]; omega
    unfold encD at h4
    rw [List.length_append] at h4
    exact ⟨by simp only [vR]; omega, h3⟩

set_option maxRecDepth 100000 in
set_option maxHeartbeats 8000000 in
theorem law_7 (G : Glob) (b : List UInt8) : Fn G Try.prog 7 [.sl 1 b.length (b.map bD)] (.bool true) := by
  refine Fn.mk (c := _) Try.func7 rfl rfl Try.ntmps7 Try.results7 ?_
  (simp -dsimp only [bodyW, List.length_cons, List.length_nil, Nat.zero_add, Nat.reduceLeDiff, wfL, ↓z_seq, ↓z_region, ↓z_ops_plain, ↓z_assign, ↓evW_const, ↓constW_bool, ↓z_put, Nat.reduceLT, ↓z_ops_nil, ↓z_seq_nrm, ↓z_move, ↓evW_tmp, ↓lkW_cons, reduceCtorEq, ↓reduceIte, ↓z_lk_env, ↓z_callb, ↓z_evL_cons, ↓z_evL_nil, ↓z_len, ↓y_ty28, ↓z_ln_sl, ↓z_binOp, ↓constW_int, inR_i64, Int.reduceNeg, Int.reduceLE, and_self, ↓z_bn_gtr, ↓z_cond, ↓z_cnd, ↓z_gdt, ↓z_callv, ↓evW_func, ↓z_fun0, ↓z_coeL_nil, ↓z_skip, ↓z_coeL_cons, ↓z_coe_sl, true_and, z_ite])
  intro h1
  refine ⟨fun _ => call_fn (fn_sanity G) fun _ => ?_, fun hsm => ?_⟩
  · (simp -dsimp only [↓z_put, Nat.reduceLT, ↓z_ops_plain, ↓z_assign, ↓evW_tmp, ↓lkW_cons, ↓reduceIte, ↓z_ops_nil, ↓z_seq_nrm, ↓z_ret, ↓z_seq_rt, ↓z_end_rt, resLW, res1W, ↓z_coeL_cons, ↓z_coeL_nil, ↓z_pack1, ↓z_coe_bool, and_self]); (try simp only [Int.toNat_natCast, Nat.mul_one, Bool.or_false, Bool.false_or, Bool.or_self, Bool.or_true])
  have hb : b.length ≤ 100000 := by omega
  have s1 := decB_small b
  have s2 := decL_small Cod_int encI_pos b
  have s3 := decL_small Cod_str encB_pos b
  have s4 := decD_small b
  refine call_fn (g24 G b) fun _ => ?_
  (simp -dsimp only [↓z_put, Nat.reduceLT, ↓z_ops_plain, ↓z_move, ↓evW_tmp, ↓lkW_cons, ↓reduceIte, ↓z_extract, ↓z_ex, ↓nthW_cons, Nat.reduceEqDiff, reduceCtorEq, Nat.reduceSub, ↓z_assign, ↓z_ops_nil, ↓z_seq_nrm, ↓z_seq, ↓z_region, ↓z_lk_env, ↓z_callv, ↓evW_func, ↓z_evL_cons, ↓z_evL_nil, ↓z_fun0, ↓z_coeL_cons, ↓z_coe_sl, ↓z_coeL_nil, true_and])
  refine call_fn (g26 G b) fun _ => ?_
  (simp -dsimp only [↓z_put, Nat.reduceLT, ↓z_ops_plain, ↓z_move, ↓evW_tmp, ↓lkW_cons, ↓reduceIte, ↓z_extract, ↓z_ex, ↓nthW_cons, Nat.reduceEqDiff, reduceCtorEq, Nat.reduceSub, ↓z_assign, ↓z_ops_nil, ↓z_seq_nrm, ↓z_seq, ↓z_region, ↓z_lk_env, ↓z_callv, ↓evW_func, ↓z_evL_cons, ↓z_evL_nil, ↓z_fun0, ↓z_coeL_cons, ↓z_coe_sl, ↓z_coeL_nil, true_and])
  refine call_fn (g28 G b hb) fun _ => ?_
  (simp -dsimp only [↓z_put, Nat.reduceLT, ↓z_ops_plain, ↓z_move, ↓evW_tmp, ↓lkW_cons, ↓reduceIte, ↓z_extract, ↓z_ex, ↓nthW_cons, Nat.reduceEqDiff, reduceCtorEq, Nat.reduceSub, ↓z_assign, ↓z_ops_nil, ↓z_seq_nrm, ↓z_seq, ↓z_region, ↓z_lk_env, ↓z_callv, ↓evW_func, ↓z_evL_cons, ↓z_evL_nil, ↓z_fun0, ↓z_coeL_cons, ↓z_coe_sl, ↓z_coeL_nil, true_and]); (try simp only [Int.toNat_natCast, Nat.mul_one, Bool.or_false, Bool.false_or, Bool.or_self, Bool.or_true])
  refine call_fn (g31 G b hb) fun _ => ?_
  (simp -dsimp only [↓z_put, Nat.reduceLT, ↓z_ops_plain, ↓z_move, ↓evW_tmp, ↓lkW_cons, ↓reduceIte, ↓z_extract, ↓z_ex, ↓nthW_cons, Nat.reduceEqDiff, reduceCtorEq, Nat.reduceSub, ↓z_assign, ↓z_ops_nil, ↓z_seq_nrm, ↓z_seq, ↓z_region, ↓z_lk_env, ↓z_callv, ↓evW_func, ↓z_evL_cons, ↓z_evL_nil, ↓z_fun0, ↓z_coeL_cons, ↓z_coe_sl, ↓z_coeL_nil, true_and]); (try simp only [Int.toNat_natCast, Nat.mul_one, Bool.or_false, Bool.false_or, Bool.or_self, Bool.or_true])
  refine call_fn (g34 G b hb) fun _ => ?_
  (simp -dsimp only [↓z_put, Nat.reduceLT, ↓z_ops_plain, ↓z_move, ↓evW_tmp, ↓lkW_cons, ↓reduceIte, ↓z_extract, ↓z_ex, ↓nthW_cons, Nat.reduceEqDiff, reduceCtorEq, Nat.reduceSub, ↓z_assign, ↓z_ops_nil, ↓z_seq_nrm, ↓z_seq, ↓z_region, ↓z_callv, ↓evW_func, ↓z_evL_nil, ↓z_fun0, ↓z_coeL_nil, true_and]); (try simp only [Int.toNat_natCast, Nat.mul_one, Bool.or_false, Bool.false_or, Bool.or_self, Bool.or_true])
  refine call_fn (fn_sanity G) fun _ => ?_
  (simp -dsimp only [↓z_put, Nat.reduceLT, ↓z_ops_plain, ↓z_move, ↓evW_tmp, ↓lkW_cons, ↓reduceIte, ↓z_ops_guard, ↓z_grd, ↓z_dst_s, ↓z_dst_0, ↓z_grdD_b, ↓z_gtt, reduceCtorEq, ↓z_lk_env, Nat.reduceEqDiff, ↓z_callv, ↓evW_func, ↓z_evL_cons, ↓z_evL_nil, ↓z_fun0, ↓z_coeL_cons, ↓z_coe_int, ↓z_coeL_nil, true_and]); (try simp only [Int.toNat_natCast, Nat.mul_one, Bool.or_false, Bool.false_or, Bool.or_self, Bool.or_true])
  refine call_fn (fn_Int G _).fn fun _ => ?_
  (simp -dsimp only [↓z_put, Nat.reduceLT, ↓z_ops_guard, ↓z_grd, ↓z_dst_s, ↓z_dst_0, ↓lkW_cons, Nat.reduceEqDiff, ↓reduceIte, ↓z_grdD_b, ↓z_gtt, ↓z_move, ↓evW_tmp, ↓z_callv, ↓evW_func, ↓z_evL_cons, ↓z_evL_nil, ↓z_fun0, ↓z_coeL_cons, ↓z_coe_sl, ↓z_coe_int, ↓z_coeL_nil, true_and]); (try simp only [Int.toNat_natCast, Nat.mul_one, Bool.or_false, Bool.false_or, Bool.or_self, Bool.or_true])
  refine call_fn ((fn_consumed G b (encI (vR 0 (decI b))) _ _ _ hb).out (d' := .bool true) (by rw [canon_of (fun x u h => Cod_int.canon h) fun e h => by rcases decI_err h with h | h <;> omega])) fun _ => ?_
  (simp -dsimp only [↓z_put, Nat.reduceLT, ↓z_ops_plain, ↓z_pick, ↓evW_tmp, ↓lkW_cons, Nat.reduceEqDiff, ↓reduceIte, ↓z_pick_b, ↓z_gtt, ↓z_move, ↓z_ops_guard, ↓z_grd, ↓z_dst_s, ↓z_dst_0, ↓z_grdD_b, reduceCtorEq, ↓z_lk_env, ↓z_callv, ↓evW_func, ↓z_evL_cons, ↓z_evL_nil, ↓z_fun0, ↓z_coeL_cons, ↓z_coe_str, ↓z_coeL_nil, true_and]); (try simp only [Int.toNat_natCast, Nat.mul_one, Bool.or_false, Bool.false_or, Bool.or_self, Bool.or_true])
  refine call_fn (fn_Bytes G _ (by omega)).fn fun _ => ?_
  (simp -dsimp only [↓z_put, Nat.reduceLT, ↓z_ops_guard, ↓z_grd, ↓z_dst_s, ↓z_dst_0, ↓lkW_cons, Nat.reduceEqDiff, ↓reduceIte, ↓z_grdD_b, ↓z_gtt, ↓z_move, ↓evW_tmp, ↓z_callv, ↓evW_func, ↓z_evL_cons, ↓z_evL_nil, ↓z_fun0, ↓z_coeL_cons, ↓z_coe_sl, ↓z_coe_int, ↓z_coeL_nil, true_and]); (try simp only [Int.toNat_natCast, Nat.mul_one, Bool.or_false, Bool.false_or, Bool.or_self, Bool.or_true])
  refine call_fn ((fn_consumed G b (encB (vR [] (decB b))) _ _ _ hb).out (d' := .bool true) (by rw [canon_of (fun x u h => Cod_str.canon h) fun e h => by rcases Dec_str.err h with h | h <;> omega])) fun _ => ?_
  (simp -dsimp only [↓z_put, Nat.reduceLT, ↓z_ops_plain, ↓z_pick, ↓evW_tmp, ↓lkW_cons, Nat.reduceEqDiff, ↓reduceIte, ↓z_pick_b, ↓z_gtt, ↓z_move, ↓z_ops_guard, ↓z_grd, ↓z_dst_s, ↓z_dst_0, ↓z_grdD_b, reduceCtorEq, ↓z_lk_env, ↓z_callv, ↓evW_func, ↓z_evL_cons, ↓z_evL_nil, ↓z_fun0, ↓z_coeL_cons, ↓z_coe_sl, ↓z_coeL_nil, true_and]); (try simp only [Int.toNat_natCast, Nat.mul_one, Bool.or_false, Bool.false_or, Bool.or_self, Bool.or_true])
  refine call_fn (fn_Ints G _ (by omega) fun x hx => by have := s2.2 x hx; omega).fn fun _ => ?_
  (simp -dsimp only [↓z_put, Nat.reduceLT, ↓z_ops_guard, ↓z_grd, ↓z_dst_s, ↓z_dst_0, ↓lkW_cons, Nat.reduceEqDiff, ↓reduceIte, ↓z_grdD_b, ↓z_gtt, ↓z_move, ↓evW_tmp, ↓z_callv, ↓evW_func, ↓z_evL_cons, ↓z_evL_nil, ↓z_fun0, ↓z_coeL_cons, ↓z_coe_sl, ↓z_coe_int, ↓z_coeL_nil, true_and]); (try simp only [Int.toNat_natCast, Nat.mul_one, Bool.or_false, Bool.false_or, Bool.or_self, Bool.or_true])
  refine call_fn ((fn_consumed G b (encL encI (vR [] (decL decI 1 b))) _ _ _ hb).out (d' := .bool true) (by rw [canon_of (fun x u h => decL_canon Cod_int h) fun e h => decL_err Dec_int h])) fun _ => ?_
  (simp -dsimp only [↓z_put, Nat.reduceLT, ↓z_ops_plain, ↓z_pick, ↓evW_tmp, ↓lkW_cons, Nat.reduceEqDiff, ↓reduceIte, ↓z_pick_b, ↓z_gtt, ↓z_move, ↓z_ops_guard, ↓z_grd, ↓z_dst_s, ↓z_dst_0, ↓z_grdD_b, reduceCtorEq, ↓z_lk_env, ↓z_callv, ↓evW_func, ↓z_evL_cons, ↓z_evL_nil, ↓z_fun0, ↓z_coeL_cons, ↓z_coe_sl, ↓z_coeL_nil, true_and]); (try simp only [Int.toNat_natCast, Nat.mul_one, Bool.or_false, Bool.false_or, Bool.or_self, Bool.or_true])
  refine call_fn (fn_Strings G _ (by omega) (fun x hx => by have := s3.2 x hx; omega) fun x hx => by have := s3.2 x hx; have := encB_ge x; omega).fn fun _ => ?_
  (simp -dsimp only [↓z_put, Nat.reduceLT, ↓z_ops_guard, ↓z_grd, ↓z_dst_s, ↓z_dst_0, ↓lkW_cons, Nat.reduceEqDiff, ↓reduceIte, ↓z_grdD_b, ↓z_gtt, ↓z_move, ↓evW_tmp, ↓z_callv, ↓evW_func, ↓z_evL_cons, ↓z_evL_nil, ↓z_fun0, ↓z_coeL_cons, ↓z_coe_sl, ↓z_coe_int, ↓z_coeL_nil, true_and]); (try simp only [Int.toNat_natCast, Nat.mul_one, Bool.or_false, Bool.false_or, Bool.or_self, Bool.or_true])
  refine call_fn ((fn_consumed G b (encL encB (vR [] (decL decB 1 b))) _ _ _ hb).out (d' := .bool true) (by rw [canon_of (fun x u h => decL_canon Cod_str h) fun e h => decL_err Dec_str h])) fun _ => ?_
  (simp -dsimp only [↓z_put, Nat.reduceLT, ↓z_ops_plain, ↓z_pick, ↓evW_tmp, ↓lkW_cons, Nat.reduceEqDiff, ↓reduceIte, ↓z_pick_b, ↓z_gtt, ↓z_move, ↓z_ops_guard, ↓z_grd, ↓z_dst_s, ↓z_dst_0, ↓z_grdD_b, reduceCtorEq, ↓z_lk_env, ↓z_callv, ↓evW_func, ↓z_evL_cons, ↓z_evL_nil, ↓z_fun0, ↓z_coeL_cons, ↓z_coe_sl, ↓z_coeL_nil, true_and]); (try simp only [Int.toNat_natCast, Nat.mul_one, Bool.or_false, Bool.false_or, Bool.or_self, Bool.or_true])
  refine call_fn (fn_Digests G _ _ s4.2 (by omega)).fn fun _ => ?_
  (simp -dsimp only [↓z_put, Nat.reduceLT, ↓z_ops_guard, ↓z_grd, ↓z_dst_s, ↓z_dst_0, ↓lkW_cons, Nat.reduceEqDiff, ↓reduceIte, ↓z_grdD_b, ↓z_gtt, ↓z_move, ↓evW_tmp, ↓z_callv, ↓evW_func, ↓z_evL_cons, ↓z_evL_nil, ↓z_fun0, ↓z_coeL_cons, ↓z_coe_sl, ↓z_coe_int, ↓z_coeL_nil, true_and]); (try simp only [Int.toNat_natCast, Nat.mul_one, Bool.or_false, Bool.false_or, Bool.or_self, Bool.or_true])
  refine call_fn ((fn_consumed G b (encD (vR (0, []) (decD b)).1 (vR (0, []) (decD b)).2) _ _ _ hb).out (d' := .bool true) (by
    rw [canon_of (e := fun p : Nat × List UInt8 => encD p.1 p.2) (fun x u h => ⟨(decD_canon h).1, (decD_canon h).2.1⟩) fun e h => ?_]
    unfold decD at h
    split at h
    · rename_i e' he; cases h; rcases decN_err he with h | h <;> omega
    · cases h)) fun _ => ?_
  (simp -dsimp only [↓z_put, Nat.reduceLT, ↓z_ops_plain, ↓z_pick, ↓evW_tmp, ↓lkW_cons, Nat.reduceEqDiff, ↓reduceIte, ↓z_pick_b, ↓z_gtt, ↓z_assign, ↓z_ops_nil, ↓z_seq_nrm, ↓z_ret, ↓z_end_rt, resLW, res1W, ↓z_coeL_cons, ↓z_coeL_nil, ↓z_pack1, ↓z_coe_bool, and_self]); (try simp only [Int.toNat_natCast, Nat.mul_one, Bool.or_false, Bool.false_or, Bool.or_self, Bool.or_true])
end Go.Abs

