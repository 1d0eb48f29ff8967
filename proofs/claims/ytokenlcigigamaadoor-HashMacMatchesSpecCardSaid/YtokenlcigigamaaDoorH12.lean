/-
  HASH, twelfth walks: the examples.
-/
import Derived.Test.YtokenlcigigamaaDoorH11
import Derived.Test.YtokenlcigigamaaDoorAbs29
namespace Go.Abs
open Go.Proofs
def jefe : List UInt8 := [74, 101, 102, 101]
def what : List UInt8 := [119, 104, 97, 116, 32, 100, 111, 32, 121, 97, 32, 119, 97, 110, 116, 32, 102, 111, 114, 32, 110, 111, 116, 104, 105, 110, 103, 63]
set_option maxRecDepth 100000 in
theorem ex_abc : hexL (sha [97, 98, 99]) = [98, 97, 55, 56, 49, 54, 98, 102, 56, 102, 48, 49, 99, 102, 101, 97, 52, 49, 52, 49, 52, 48, 100, 101, 53, 100, 97, 101, 50, 50, 50, 51, 98, 48, 48, 51, 54, 49, 97, 51, 57, 54, 49, 55, 55, 97, 57, 99, 98, 52, 49, 48, 102, 102, 54, 49, 102, 50, 48, 48, 49, 53, 97, 100] := by decide +kernel
set_option maxRecDepth 100000 in
theorem ex_of : hexL (ofD 1 []) = [52, 98, 102, 53, 49, 50, 50, 102, 51, 52, 52, 53, 53, 52, 99, 53, 51, 98, 100, 101, 50, 101, 98, 98, 56, 99, 100, 50, 98, 55, 101, 51] := by decide +kernel
set_option maxRecDepth 100000 in
theorem ex_mac : hexL (hmacL jefe what) = [53, 98, 100, 99, 99, 49, 52, 54, 98, 102, 54, 48, 55, 53, 52, 101, 54, 97, 48, 52, 50, 52, 50, 54, 48, 56, 57, 53, 55, 53, 99, 55, 53, 97, 48, 48, 51, 102, 48, 56, 57, 100, 50, 55, 51, 57, 56, 51, 57, 100, 101, 99, 53, 56, 98, 57, 54, 52, 101, 99, 51, 56, 52, 51] := by decide +kernel
set_option maxRecDepth 100000 in
set_option maxHeartbeats 8000000 in
theorem fn_sanity : Fn GH Tryd.prog 12 [] (.bool true) := by
  have la := sha_len [97, 98, 99]
  have lo := ofD_len 1 []
  have lk := hmac_len jefe what
  have xa := ex_abc
  have xo := ex_of
  have xk := ex_mac
  have b0 : ∀ x, (addS str0 x).blk.length = 64 := fun x => by rw [addS_blk]; rfl
  have n0 : ∀ x, (addS str0 x).n = x.length := fun x => by rw [addS_n]; simp [str0]
  have f1 : Fn GH Tryd.prog 13 [.sl 1 3 [.int .u8 97, .int .u8 98, .int .u8 99]] (.agg ((sha [97, 98, 99]).map bD)) := fn_hSum [97, 98, 99] (by decide)
  have f2 : Fn GH Tryd.prog 17 [.agg (strC str0), .str [97]] (.agg (strC (addS str0 [97]))) := fn_Add str0 rfl [97] (by decide)
  have f3 : Fn GH Tryd.prog 17 [.agg (strC (addS str0 [97])), .str [98, 99]] (.agg (strC (addS str0 [97, 98, 99]))) := (fn_Add (addS str0 [97]) (b0 _) [98, 99] (by rw [n0]; decide)).out (by rw [← addS_app]; rfl)
  have f4 : Fn GH Tryd.prog 19 [.agg (strC (addS str0 [97, 98, 99]))] (.agg ((sha [97, 98, 99]).map bD)) := (fn_Sum (addS str0 [97, 98, 99]) (b0 _) (by rw [n0]; decide)).out rfl
  have f5 : Fn GH Tryd.prog 20 [.int .i64 1, .nils] (.agg ((ofD 1 []).map bD)) := (fn_Of 1 [] (by simp) (by decide)).weak (.cons (.refl _) (.cons (.nils 1) .nil))
  have f6 : Fn GH Tryd.prog 25 [.str jefe, .str what] (.agg ((hmacL jefe what).map bD)) := fn_Hmac jefe what (by decide) (by decide)
  generalize sha [97, 98, 99] = A at *
  generalize ofD 1 [] = O at *
  generalize hmacL jefe what = K at *
  generalize addS str0 [97, 98, 99] = S3 at *
  generalize addS str0 [97] = S1 at *
  unfold jefe what at f6
  have tA : (A.drop 0).take 32 = A := by rw [List.drop_zero, List.take_of_length_le (by omega)]
  have tO : (O.drop 0).take 16 = O := by rw [List.drop_zero, List.take_of_length_le (by omega)]
  have tK : (K.drop 0).take 32 = K := by rw [List.drop_zero, List.take_of_length_le (by omega)]
  refine Fn.mkS (c := _) Tryd.func12 rfl rfl Tryd.ntmps12 Tryd.results12 (Snd.seq (Snd.of _) (Snd.seq (Snd.lit rfl) (Snd.of _))) ?_
  rw [s_body]
  (simp -dsimp only [List.length_nil, Nat.reduceLeDiff, wfL, ↓z_region, ↓z_ops_plain, ↓z_assign, ↓evW_const, ↓constW_bool, ↓z_put, Nat.reduceLT, ↓z_ops_nil, ↓z_seq_nrm, ↓z_envF_nil, ↓z_callv, ↓evW_func, ↓z_evL_cons, ↓z_evL_nil, ↓z_fun0, ↓z_coeL_cons, ↓z_coeL_nil, s_lit, ↓y_ty22, ↓z_slTy, ↓y_ty5, ↓y_sz5, Nat.mul_one, maxLen_lit, ↓y_zr5, List.length_cons, Nat.zero_add, ↓z_repL_s, ↓z_repL_0, ↓z_cat_nil_r, ↓catW_cons, ↓catW_nil, ↓z_bld_cons, ↓constW_int, inR_u8, Int.reduceLE, and_self, ↓z_cl_int, Nat.reduceAdd, ↓spsW_cons, ↓reduceIte, ↓drW_cons, reduceCtorEq, Nat.reduceSub, ↓drW_nil, ↓z_bld_nil, ↓z_allP_cons, ↓z_isP_int, ↓z_allP_nil, ↓z_new, ↓z_nm_nil, ↓z_pg_cons, ↓z_mn_bool, ↓z_pg_nil, ↓evW_tmp, ↓lkW_cons, ↓z_coe_osl, ↓lkoW_cons, true_and])
  refine call_fnL f1 (flS_bytes _) fun _ => ?_
  (simp -dsimp only [↓z_put, Nat.reduceLT, ↓z_ops_plain, ↓z_alloc, ↓y_zr24, ↓z_new, ↓z_nm_cons, ↓z_nmC_cons, ↓z_mn'_int, ↓z_nmC_nil, and_self, ↓z_nm_nil, Nat.zero_add, ↓z_pg_cons, ↓z_mn_agg, ↓z_mn_osl, reduceCtorEq, ↓reduceIte, ↓z_mn_bool, ↓z_pg_nil, ↓z_store, ↓evW_tmp, ↓lkW_cons, Nat.reduceEqDiff, ↓y_sz24, ↓z_cl_agg, List.length_map, ↓z_store_ptr, ↓lkoW_cons, List.length_cons, List.length_nil, Nat.reduceAdd, Nat.reduceLeDiff, ↓spsW_cons, ↓drW_cons, Nat.reduceSub, ↓drW_nil, ↓z_cat_nil_r, ↓z_so_cons, ↓z_put_none, ↓z_ops_nil, ↓z_seq_nrm, ↓z_seq, ↓z_region, ↓z_callv, ↓evW_func, ↓z_evL_nil, ↓z_fun0, ↓z_coeL_nil, true_and])
  refine ⟨la, ?_⟩
  refine call_fn (fn_Begin GH) fun _ => ?_
  (simp -dsimp only [↓z_put, Nat.reduceLT, ↓z_ops_plain, ↓z_callv, ↓evW_func, ↓z_evL_cons, ↓evW_tmp, ↓lkW_cons, ↓reduceIte, ↓evW_const, ↓constW_string, List.length_cons, List.length_nil, Nat.zero_add, maxLen_lit, Nat.reduceLeDiff, ↓z_evL_nil, ↓z_fun0, ↓z_coeL_cons, ↓z_coe_agg, ↓z_coe_str, ↓z_coeL_nil, true_and])
  refine call_fn f2 fun _ => ?_
  (simp -dsimp only [↓z_put, Nat.reduceLT, ↓z_ops_plain, ↓z_callv, ↓evW_func, ↓z_evL_cons, ↓evW_tmp, ↓lkW_cons, ↓reduceIte, ↓evW_const, ↓constW_string, List.length_cons, List.length_nil, Nat.zero_add, Nat.reduceAdd, maxLen_lit, Nat.reduceLeDiff, ↓z_evL_nil, ↓z_fun0, ↓z_coeL_cons, ↓z_coe_agg, ↓z_coe_str, ↓z_coeL_nil, true_and])
  refine call_fn f3 fun _ => ?_
  (simp -dsimp only [↓z_put, Nat.reduceLT, ↓z_ops_plain, ↓z_callv, ↓evW_func, ↓z_evL_cons, ↓evW_tmp, ↓lkW_cons, ↓reduceIte, ↓z_evL_nil, ↓z_fun0, ↓z_coeL_cons, ↓z_coe_agg, ↓z_coeL_nil, true_and])
  refine call_fn f4 fun _ => ?_
  (simp -dsimp only [↓z_put, Nat.reduceLT, ↓z_ops_plain, ↓z_alloc, ↓y_zr24, ↓z_new, ↓z_nm_cons, ↓z_nmC_bytes, ↓z_nmC_cons, ↓z_mn'_int, ↓z_nmC_nil, and_self, ↓z_nm_nil, Nat.zero_add, Nat.reduceAdd, ↓z_pg_cons, ↓z_mn_agg, ↓z_mn_ptr, Nat.reduceEqDiff, ↓reduceIte, ↓z_mn_osl, reduceCtorEq, ↓z_mn_bool, ↓z_pg_nil, ↓z_store, ↓evW_tmp, ↓lkW_cons, ↓y_sz24, ↓z_cl_agg, List.length_map, ↓z_store_ptr, ↓lkoW_cons, List.length_cons, List.length_nil, Nat.reduceLeDiff, ↓spsW_cons, ↓drW_cons, Nat.reduceSub, ↓drW_nil, ↓z_cat_nil_r, ↓z_so_cons, ↓z_put_none, ↓z_ops_nil, ↓z_seq_nrm, ↓z_seq, ↓z_region, ↓z_callv, ↓evW_func, ↓z_evL_cons, ↓evW_const, ↓constW_int, inR_i64, Int.reduceNeg, Int.reduceLE, ↓constW_nils, ↓z_evL_nil, ↓z_fun0, ↓z_coeL_cons, ↓z_coe_int, ↓z_coe_nils, ↓z_coeL_nil, true_and])
  refine ⟨la, ?_⟩
  refine call_fnL f5 (flS_bytes _) fun _ => ?_
  (simp -dsimp only [↓z_put, Nat.reduceLT, ↓z_ops_plain, ↓z_alloc, ↓y_zr41, ↓z_new, ↓z_nm_cons, ↓z_nmC_bytes, ↓z_nmC_cons, ↓z_mn'_int, ↓z_nmC_nil, and_self, ↓z_nm_nil, Nat.zero_add, Nat.reduceAdd, ↓z_pg_cons, ↓z_mn_agg, ↓z_mn_ptr, Nat.reduceEqDiff, ↓reduceIte, ↓z_mn_osl, reduceCtorEq, ↓z_mn_bool, ↓z_pg_nil, ↓z_store, ↓evW_tmp, ↓lkW_cons, ↓y_sz41, ↓z_cl_agg, List.length_map, ↓z_store_ptr, ↓lkoW_cons, List.length_cons, List.length_nil, Nat.reduceLeDiff, ↓spsW_cons, ↓drW_cons, Nat.reduceSub, ↓drW_nil, ↓z_cat_nil_r, ↓z_so_cons, ↓z_put_none, ↓z_ops_nil, ↓z_seq_nrm, ↓z_seq, ↓z_region, ↓z_callv, ↓evW_func, ↓z_evL_cons, ↓evW_const, ↓constW_string, maxLen_lit, ↓z_evL_nil, ↓z_fun0, ↓z_coeL_cons, ↓z_coe_str, ↓z_coeL_nil, true_and])
  refine ⟨lo, ?_⟩
  have g1 : Fn GH Tryd.prog 27 [.agg (((A.drop 0).take 32).map bD)] (.str A) := (fn_Bytes32 GH A la).inp (by rw [tA])
  have g2 : Fn GH Tryd.prog 34 [.agg (((O.drop 0).take 16).map bD)] (.str O) := (fn_Text GH O lo).inp (by rw [tO])
  have g3 : Fn GH Tryd.prog 27 [.agg (((K.drop 0).take 32).map bD)] (.str K) := (fn_Bytes32 GH K lk).inp (by rw [tK])
  have e1 : Fn GH Tryd.prog 28 [.str [97], .int .i64 33] (.str (expL [97] 33)) := fn_Expand [97] 33 (by decide)
  have e2 : Fn GH Tryd.prog 28 [.str [97], .int .i64 0] (.str []) := (fn_Expand [97] 0 (by decide)).out rfl
  have e3 : (expL [97] 33).length = 33 := by have := expL_len [97] (n := 33) (by decide) (by decide); omega
  generalize expL [97] 33 = X at *
  refine call_fn f6 fun _ => ?_
  (simp -dsimp only [↓z_put, Nat.reduceLT, ↓z_ops_plain, ↓z_alloc, ↓y_zr24, ↓z_new, ↓z_nm_cons, ↓z_nmC_bytes, ↓z_nmC_cons, ↓z_mn'_int, ↓z_nmC_nil, and_self, ↓z_nm_nil, Nat.zero_add, Nat.reduceAdd, ↓z_pg_cons, ↓z_mn_agg, ↓z_mn_ptr, Nat.reduceEqDiff, ↓reduceIte, ↓z_mn_osl, reduceCtorEq, ↓z_mn_bool, ↓z_pg_nil, ↓z_store, ↓evW_tmp, ↓lkW_cons, ↓y_sz24, ↓z_cl_agg, List.length_map, ↓z_store_ptr, ↓lkoW_cons, List.length_cons, List.length_nil, Nat.reduceLeDiff, ↓spsW_cons, ↓drW_cons, Nat.reduceSub, ↓drW_nil, ↓z_cat_nil_r, ↓z_so_cons, ↓z_put_none, ↓z_ops_nil, ↓z_seq_nrm, ↓z_seq, ↓z_region, ↓z_load, ↓y_ty24, ↓z_agTy_arr, ↓loadW_ptr, ↓z_rd_t, ↓z_sub_map, ↓z_callv, ↓evW_func, ↓z_evL_cons, ↓z_evL_nil, ↓z_fun0, ↓z_coeL_cons, ↓z_coe_oag, ↓z_coeC_bytes, ↓z_coeL_nil, true_and])
  refine ⟨lk, ?_⟩
  refine ⟨by omega, ?_⟩
  refine call_fnL g1 rfl fun _ => ?_
  (simp -dsimp only [↓z_put, Nat.reduceLT, ↓z_ops_plain, ↓z_callv, ↓evW_func, ↓z_evL_cons, ↓evW_tmp, ↓lkW_cons, ↓reduceIte, ↓z_evL_nil, ↓z_fun0, ↓z_coeL_cons, ↓z_coe_str, ↓z_coeL_nil, true_and])
  refine call_fnL (fn_hex GH A (by omega)) rfl fun _ => ?_
  rw [xa]
  (simp -dsimp only [↓z_put, Nat.reduceLT, ↓z_ops_plain, ↓z_binOp, ↓evW_tmp, ↓lkW_cons, ↓reduceIte, ↓evW_const, ↓constW_string, List.length_cons, List.length_nil, Nat.zero_add, Nat.reduceAdd, maxLen_lit, Nat.reduceLeDiff, ↓z_bn_seql, ↓z_move, ↓z_ops_guard, ↓z_grd, ↓z_dst_s, ↓z_dst_0, ↓z_grdD_b, ↓z_gdt, ↓z_load, Nat.reduceEqDiff, ↓y_ty24, ↓y_sz24, ↓z_agTy_arr, ↓loadW_ptr, ↓lkoW_cons, ↓z_rd_t, List.length_map, ↓z_sub_map, ↓z_gtt, ↓z_bn_ooql, ↓z_allP_bytes, ↓y_fk24, ↓kdM_bytes, List.length_take, List.length_drop, ↓z_pick, ↓z_pick_b, ↓z_geqt, ↓y_ty41, ↓y_sz41, ↓z_callv, ↓evW_func, ↓z_evL_cons, ↓z_evL_nil, ↓z_fun0, ↓z_coeL_cons, ↓z_coe_oag, ↓z_coeC_bytes, ↓z_coeL_nil, true_and, not_true_eq_false, ↓z_gnt, ↓z_gtf, ↓constW_bool, ↓z_gft, ↓z_assign, ↓z_ops_nil, ↓z_seq_nrm, ↓z_ret, ↓z_end_rt, resLW, res1W, Bool.not_true, ↓z_pack1, ↓z_coe_bool, D.bool.injEq, reduceCtorEq])
  refine ⟨by omega, by omega, by omega, by omega, fun _ => ⟨by omega, ?_⟩, fun h => h.elim⟩
  refine call_fnL g2 rfl fun _ => ?_
  (simp -dsimp only [↓z_put, Nat.reduceLT, ↓z_ops_guard, ↓z_grd, ↓z_dst_s, ↓z_dst_0, ↓lkW_cons, Nat.reduceEqDiff, ↓reduceIte, ↓z_grdD_b, ↓z_gtt, ↓z_callv, ↓evW_func, ↓z_evL_cons, ↓evW_tmp, ↓z_evL_nil, ↓z_fun0, ↓z_coeL_cons, ↓z_coe_str, ↓z_coeL_nil, true_and])
  refine call_fnL (fn_hex GH O (by omega)) rfl fun _ => ?_
  rw [xo]
  (simp -dsimp only [↓z_put, Nat.reduceLT, ↓z_ops_guard, ↓z_grd, ↓z_dst_s, ↓z_dst_0, ↓lkW_cons, Nat.reduceEqDiff, ↓reduceIte, ↓z_grdD_b, ↓z_gtt, ↓z_binOp, ↓evW_tmp, ↓evW_const, ↓constW_string, List.length_cons, List.length_nil, Nat.zero_add, Nat.reduceAdd, maxLen_lit, Nat.reduceLeDiff, ↓z_bn_seql, ↓z_ops_plain, ↓z_pick, ↓z_pick_b, ↓z_move, ↓z_gdt, ↓z_load, ↓y_ty24, ↓y_sz24, ↓z_agTy_arr, ↓loadW_ptr, ↓lkoW_cons, ↓z_rd_t, List.length_map, ↓z_sub_map, ↓z_callv, ↓evW_func, ↓z_evL_cons, ↓z_evL_nil, ↓z_fun0, ↓z_coeL_cons, ↓z_coe_oag, ↓z_coeC_bytes, ↓z_coeL_nil, true_and])
  refine ⟨by omega, ?_⟩
  refine call_fnL g3 rfl fun _ => ?_
  (simp -dsimp only [↓z_put, Nat.reduceLT, ↓z_ops_guard, ↓z_grd, ↓z_dst_s, ↓z_dst_0, ↓lkW_cons, Nat.reduceEqDiff, ↓reduceIte, ↓z_grdD_b, ↓z_gtt, ↓z_callv, ↓evW_func, ↓z_evL_cons, ↓evW_tmp, ↓z_evL_nil, ↓z_fun0, ↓z_coeL_cons, ↓z_coe_str, ↓z_coeL_nil, true_and])
  refine call_fnL (fn_hex GH K (by omega)) rfl fun _ => ?_
  rw [xk]
  (simp -dsimp only [↓z_put, Nat.reduceLT, ↓z_ops_guard, ↓z_grd, ↓z_dst_s, ↓z_dst_0, ↓lkW_cons, Nat.reduceEqDiff, ↓reduceIte, ↓z_grdD_b, ↓z_gtt, ↓z_binOp, ↓evW_tmp, ↓evW_const, ↓constW_string, List.length_cons, List.length_nil, Nat.zero_add, Nat.reduceAdd, maxLen_lit, Nat.reduceLeDiff, ↓z_bn_seql, ↓z_ops_plain, ↓z_pick, ↓z_pick_b, ↓z_move, ↓z_gdt, ↓z_callv, ↓evW_func, ↓z_evL_cons, ↓constW_int, inR_i64, Int.reduceNeg, Int.reduceLE, and_self, ↓z_evL_nil, ↓z_fun0, ↓z_coeL_cons, ↓z_coe_str, ↓z_coe_int, ↓z_coeL_nil, true_and])
  refine call_fnL e1 rfl fun _ => ?_
  (simp -dsimp only [↓z_put, Nat.reduceLT, ↓z_ops_guard, ↓z_grd, ↓z_dst_s, ↓z_dst_0, ↓lkW_cons, Nat.reduceEqDiff, ↓reduceIte, ↓z_grdD_b, ↓z_gtt, ↓z_callb, ↓z_evL_cons, ↓evW_tmp, ↓z_evL_nil, ↓z_len, ↓y_ty9, ↓z_ln_str, ↓z_binOp, ↓evW_const, ↓constW_int, inR_i64, Int.reduceNeg, Int.reduceLE, and_self, ↓z_bn_eql, ↓z_ops_plain, ↓z_pick, ↓z_pick_b, ↓z_move, ↓z_gdt, ↓z_callv, ↓evW_func, ↓constW_string, List.length_cons, List.length_nil, Nat.zero_add, maxLen_lit, Nat.reduceLeDiff, ↓z_fun0, ↓z_coeL_cons, ↓z_coe_str, ↓z_coe_int, ↓z_coeL_nil, true_and, ↓z_gnt, ↓z_gtf, ↓constW_bool, ↓z_assign, ↓z_ops_nil, ↓z_seq_nrm, ↓z_ret, ↓z_end_rt, resLW, res1W, Bool.not_true, Nat.reduceAdd, ↓z_pack1, ↓z_coe_bool, D.bool.injEq, reduceCtorEq, z_ite])
  refine ⟨fun _ => ?_, fun h => absurd (by omega) h⟩
  refine call_fnL e2 rfl fun _ => ?_
  (simp -dsimp only [↓z_put, Nat.reduceLT, ↓z_ops_guard, ↓z_grd, ↓z_dst_s, ↓z_dst_0, ↓lkW_cons, Nat.reduceEqDiff, ↓reduceIte, ↓z_grdD_b, ↓z_gtt, ↓z_binOp, ↓evW_tmp, ↓evW_const, ↓constW_string, List.length_nil, maxLen_lit, Nat.reduceLeDiff, ↓z_bn_seql, ↓z_ops_plain, ↓z_pick, ↓z_pick_b, ↓z_assign, ↓z_ops_nil, ↓z_seq_nrm, ↓z_ret, ↓z_end_rt, resLW, res1W, Nat.zero_add, Nat.reduceAdd, ↓z_coeL_cons, ↓z_coeL_nil, ↓z_pack1, ↓z_coe_bool, D.bool.injEq, decide_eq_true_eq, and_self]); (try simp only [Int.toNat_natCast, Nat.mul_one, Bool.or_false, Bool.false_or, Bool.or_self, Bool.or_true])
end Go.Abs

