/-
  AN ABSTRACT WALK, twenty-eighth text: contracts from bodies that hold a range over a function; the laws by which such code is walked, and regions in which variables are laid and stored to.
-/
import Derived.Test.YtdjfnipabekkaaaAbs27
namespace Go.Abs
open Go.RowKit (Below)

section
variable {G : Glob} {P : Program} {f : FuncId} {fn : Func} {c : Code} {ds : List D} {d : D} {n : Nat} {rs : Array ResultVar}
theorem Fn.mkR (hf : P.funcs[f]? = some fn) (hb : fn.body = some c) (hn : (fn.name == "runtime.NumGoroutine") = false) (hnt : fn.ntmps = n) (hrs : fn.results = rs) (htr : tmpR rs.toList = true)
    (h : bodyR G P n rs.toList c ds fun S rds => coeLW S rds fun ds' _ => pack ds' = d) : Fn G P f ds d := by
  subst hnt hrs
  refine ⟨⟨fn, hf, by rw [hb]; rfl, hn⟩, fun b0 vs hG hL ha => (bodyR_ok hf hb htr h hG hL ha).mono ?_⟩
  rintro e w' ⟨rvs, S, φ, rds, tmps, w0, w, rfl, hk, hw, hs, hl, hsz, hun, hbl, hr⟩
  obtain ⟨ds', b, rfl, ⟨hl', hr'⟩, _⟩ := coeLW_ok hs hl hr hk
  refine ⟨_, rfl, ?_, hbl⟩
  refine RepR.mono (F := FL φ w) (w := w) ?_ (fun b hb => hun b (by rw [← hs.base]; exact hb.1)) fun b hb => ⟨?_, by rw [hsz]; exact hb.2⟩
  · match rvs, ds', hl' with
    | [], [], _ => exact .tup rfl fun i v d hv => by simp at hv
    | [v], [d], _ => exact hr' 0 v d rfl rfl
    | v :: u :: r, d :: e :: q, hl => exact .tup (by simpa using hl) fun i v d hv hd => hr' i v d (by simpa using hv) hd
  · rcases Nat.lt_or_ge b b0.w.heap.size with h1 | h1
    · exact hw.base b h1 (by rw [← hs.base]; exact hb.1)
    · exact b0.new b h1
theorem FnF.mkR (hf : P.funcs[f]? = some fn) (hb : fn.body = some c) (hn : (fn.name == "runtime.NumGoroutine") = false) (hnt : fn.ntmps = n) (hrs : fn.results = rs) (htr : tmpR rs.toList = true)
    (h : bodyR G P n rs.toList c ds fun S rds => frL S rds ∧ coeLW S rds fun ds' _ => pack ds' = d) : FnF G P f ds d := by
  subst hnt hrs
  refine ⟨⟨fn, hf, by rw [hb]; rfl, hn⟩, fun b0 vs hG hL ha => (bodyR_ok hf hb htr h hG hL ha).mono ?_⟩
  rintro e w' ⟨rvs, S, φ, rds, tmps, w0, w, rfl, ⟨hfr, hk⟩, hw, hs, hl, hsz, hun, hbl, hr⟩
  obtain ⟨ds', b, rfl, ⟨hl', hr'⟩⟩ := frL_ok hs hl hr hfr hk
  refine ⟨_, rfl, ?_, hbl⟩
  refine RepR.mono (F := FN w0 w) (w := w) ?_ (fun b hb => hun b ?_) fun b hb => ⟨?_, by rw [hsz]; exact hb.2⟩
  · match rvs, ds', hl' with
    | [], [], _ => exact .tup rfl fun i v d hv => by simp at hv
    | [v], [d], _ => exact hr' 0 v d rfl rfl
    | v :: u :: r, d :: e :: q, hl => exact .tup (by simpa using hl) fun i v d hv hd => hr' i v d (by simpa using hv) hd
  · rcases hb.1 with h1 | h1
    · exact w0.new b h1
    · exact (w0.lb b h1).1
  · rcases hb.1 with h1 | h1
    · exact Nat.le_trans hw.below.size h1
    · exact hw.lent b h1
end

section
variable {G : Glob} {P : Program} {S : St} {k : D → St → Prop} {K : Ex → St → Prop} {kS : St → Prop} {n nx l : Nat} {env : List (Nat × D)} {own : List (Nat × List D)} {ys : List (List D)}
/-! code that holds a range over a function -/
theorem z_bodyR (rs : List ResultVar) (c : Code) (ds : List D) (k : St → List D → Prop) : bodyR G P n rs c ds k = (ds.length ≤ n ∧ wfL ds (codeR G P c ⟨n, 0, envF 0 ds, []⟩ (endK fun S => resLW P rs S fun ds => k S ds))) := _root_.id rfl
theorem z_r_skip : codeR G P .skip S K = K .nrm S := _root_.id rfl
theorem z_r_region (id : Nat) (l : List Oper) : codeR G P (.region id l.toArray false) S K = opsW G P l l S (K .nrm) := by simp [codeR, rgnW]
theorem z_r_region_d (id : Nat) (l : List Oper) : codeR G P (.region id l.toArray true) S K = (P.follows .mixedOrders = true ∧ hold (rgnT G P l S (K .nrm)) (tg _)) := by simp [codeR, rgnW, hold_eq]
theorem z_r_seq (x y : Code) : codeR G P (.seq x y) S K = codeR G P x S (seqK (fun S => codeR G P y S K) K) := _root_.id rfl
theorem z_r_cond (c : Operand) (x y : Code) : codeR G P (.cond c x y) S K = evW G S c fun d => cndW d (codeR G P x S K) (codeR G P y S K) := _root_.id rfl
theorem z_r_block (id : Nat) (c : Code) : codeR G P (.block id c) S K = codeR G P c S (blkK id K) := _root_.id rfl
theorem z_r_exit (id : Nat) : codeR G P (.exit id) S K = K (.ext id) S := _root_.id rfl
theorem z_r_label (i : Nat) : codeR G P (.label i) S K = K .nrm S := _root_.id rfl
theorem z_r_ret : codeR G P .ret S K = K .rt S := _root_.id rfl
theorem z_r_rng (g : Operand) (l : List Nat) (a b : Code) : codeR G P (.rangeFunc g l.toArray a b) S K = evW G S g fun df => hold (rngW G P df l (fun S K => codeW G P a S K) (fun S K => codeW G P b S K) S K) (tg _) := by simp only [hold_eq]; rfl
theorem z_onlyN (k : St → Prop) : onlyN k .nrm S = k S := _root_.id rfl
theorem z_par_nil (E : List (Nat × D)) : parE [] [] E = E := _root_.id rfl
theorem z_par_cons (p : Nat) (d : D) (ps : List Nat) (ds : List D) (E : List (Nat × D)) : parE (p :: ps) (d :: ds) E = (p, d) :: parE ps ds E := _root_.id rfl

theorem z_envF_nil (i : Nat) : envF i [] = [] := _root_.id rfl
theorem z_envF_cons (i : Nat) (d : D) (r : List D) : envF i (d :: r) = (i, d) :: envF (i + 1) r := _root_.id rfl
theorem z_ag_func (f : Bool → Prop) : opW.agTyW .func f = f false := _root_.id rfl
theorem z_fr_ofn (f : FuncId) (cs : List D) : frD S (.ofn f cs) = frSL S cs := _root_.id rfl
/-! an iterator's code -/
theorem z_y_skip : codeY G P l ys .skip S K = K .nrm S := _root_.id rfl
theorem z_y_region (id : Nat) (r : List Oper) : codeY G P l ys (.region id r.toArray false) S K = opsY G P l ys r r S (K .nrm) := by simp [codeY, rgnY]
theorem z_y_region_d (id : Nat) (r : List Oper) : codeY G P l ys (.region id r.toArray true) S K = (P.follows .mixedOrders = true ∧ hold (rgnYT G P l ys r S (K .nrm)) (tg _)) := by simp [codeY, rgnY, hold_eq]
theorem z_y_seq (x y : Code) : codeY G P l ys (.seq x y) S K = codeY G P l ys x S (seqK (fun S => codeY G P l ys y S K) K) := _root_.id rfl
theorem z_y_cond (c : Operand) (x y : Code) : codeY G P l ys (.cond c x y) S K = evW G S c fun d => cndW d (codeY G P l ys x S K) (codeY G P l ys y S K) := _root_.id rfl
theorem z_y_block (id : Nat) (c : Code) : codeY G P l ys (.block id c) S K = codeY G P l ys c S (blkK id K) := _root_.id rfl
theorem z_y_exit (id : Nat) : codeY G P l ys (.exit id) S K = K (.ext id) S := _root_.id rfl
theorem z_y_label (i : Nat) : codeY G P l ys (.label i) S K = K .nrm S := _root_.id rfl
theorem z_y_ret : codeY G P l ys .ret S K = K .rt S := _root_.id rfl
theorem z_y_loop (c : Code) : codeY G P l ys (.loop c) S K = hold (loopW S (fun S K => codeY G P l ys c S K) K) (tg _) := (hold_eq _ _).symm
theorem z_oy_nil (ops : List Oper) : opsY G P l ys ops [] S kS = kS S := _root_.id rfl
theorem z_oy_plain (ops rest : List Oper) (dst : Option Tmp) (op : Op) (t : TypeId) (pos : String) (after : Array Edge) :
    opsY G P l ys ops (⟨dst, op, t, pos, after, none⟩ :: rest) S kS = opY G P l ys op S fun d S => putW dst d S fun S => opsY G P l ys ops rest S kS := _root_.id rfl
theorem z_oy_guard (ops rest : List Oper) (dst : Option Tmp) (op : Op) (t : TypeId) (pos : String) (after : Array Edge) (j : Nat) (want : Bool) :
    opsY G P l ys ops (⟨dst, op, t, pos, after, some (j, want)⟩ :: rest) S kS = grdW ops (some (j, want)) S (fun S => opY G P l ys op S fun d S => putW dst d S fun S => opsY G P l ys ops rest S kS) fun S => putW dst (.tup []) S fun S => opsY G P l ys ops rest S kS := _root_.id rfl
theorem opsY_app (ops : List Oper) : ∀ (l1 l2 : List Oper) (S : St) (f : St → Prop), opsY G P l ys ops (List.append l1 l2) S f = opsY G P l ys ops l1 S fun S => opsY G P l ys ops l2 S f
  | [], l2, S, f => rfl
  | o :: r, l2, S, f => by
    show opsY G P l ys ops (o :: (List.append r l2)) S f = _
    simp only [opsY, opsY_app ops r l2]
theorem z_oy_app (ops l1 l2 : List Oper) : opsY G P l ys ops (List.append l1 l2) S kS = opsY G P l ys ops l1 S fun S => opsY G P l ys ops l2 S kS := opsY_app ops l1 l2 S kS
theorem z_yo_callv (f : Operand) (r : List Operand) (ts : Array TypeId) : opY G P l ys (.call ⟨.value f, r.toArray, ts⟩) S k = evW G S f fun df => evLW G S r fun ds => callY G P l ys df ds S k := _root_.id rfl
theorem z_yo_callb (b : Builtin) (r : Array Operand) (ts : Array TypeId) : opY G P l ys (.call ⟨.builtin b, r, ts⟩) S k = opW G P (.call ⟨.builtin b, r, ts⟩) S k := _root_.id rfl
theorem z_yo_move (x : Operand) : opY G P l ys (.move x) S k = opW G P (.move x) S k := _root_.id rfl
theorem z_yo_assign (x : Operand) : opY G P l ys (.assign x) S k = opW G P (.assign x) S k := _root_.id rfl
theorem z_yo_pick (c a b : Operand) : opY G P l ys (.pick c a b) S k = opW G P (.pick c a b) S k := _root_.id rfl
theorem z_yo_nilCheck (x : Operand) : opY G P l ys (.nilCheck x) S k = opW G P (.nilCheck x) S k := _root_.id rfl
theorem z_yo_binOp (o : BinOp) (t : TypeId) (x y : Operand) (yt : TypeId) : opY G P l ys (.binOp o t x y yt) S k = opW G P (.binOp o t x y yt) S k := _root_.id rfl
theorem z_yo_unOp (o : UnOp) (t : TypeId) (x : Operand) : opY G P l ys (.unOp o t x) S k = opW G P (.unOp o t x) S k := _root_.id rfl
theorem z_yo_convert (s d : TypeId) (x : Operand) : opY G P l ys (.convert s d x) S k = opW G P (.convert s d x) S k := _root_.id rfl
theorem z_yo_extract (x : Operand) (i : Nat) : opY G P l ys (.extract x i) S k = opW G P (.extract x i) S k := _root_.id rfl
theorem z_yo_alloc (t : TypeId) : opY G P l ys (.alloc t) S k = opW G P (.alloc t) S k := _root_.id rfl
theorem z_yo_box (t : TypeId) (x : Operand) : opY G P l ys (.box t x) S k = opW G P (.box t x) S k := _root_.id rfl
theorem z_yo_load (t : TypeId) (x : Operand) : opY G P l ys (.load t x) S k = opW G P (.load t x) S k := _root_.id rfl
theorem z_yo_store (t : TypeId) (p x : Operand) : opY G P l ys (.store t p x) S k = opW G P (.store t p x) S k := _root_.id rfl
theorem z_yo_indexAddr (t : TypeId) (x i : Operand) : opY G P l ys (.indexAddr t x i) S k = opW G P (.indexAddr t x i) S k := _root_.id rfl
theorem z_yo_fieldAddr (t : TypeId) (x : Operand) (i : Nat) : opY G P l ys (.fieldAddr t x i) S k = opW G P (.fieldAddr t x i) S k := _root_.id rfl
theorem z_yo_field (t : TypeId) (x : Operand) (i : Nat) : opY G P l ys (.field t x i) S k = opW G P (.field t x i) S k := _root_.id rfl
theorem z_yo_index (t : TypeId) (x i : Operand) : opY G P l ys (.index t x i) S k = opW G P (.index t x i) S k := _root_.id rfl
theorem z_yo_build (t : TypeId) (r : Array (Nat × Operand)) : opY G P l ys (.build t r) S k = opW G P (.build t r) S k := _root_.id rfl
theorem z_yo_buildSlice (t : TypeId) (m : Nat) (r : Array (Nat × Operand)) : opY G P l ys (.buildSlice t m r) S k = opW G P (.buildSlice t m r) S k := _root_.id rfl
theorem z_yo_slice (t : TypeId) (x : Operand) (a b c : Option Operand) : opY G P l ys (.slice t x a b c) S k = opW G P (.slice t x a b c) S k := _root_.id rfl
theorem z_yo_makeSlice (t : TypeId) (a b : Operand) : opY G P l ys (.makeSlice t a b) S k = opW G P (.makeSlice t a b) S k := _root_.id rfl
theorem z_yo_sliceToArrayPointer (t : TypeId) (x : Operand) : opY G P l ys (.sliceToArrayPointer t x) S k = opW G P (.sliceToArrayPointer t x) S k := _root_.id rfl
theorem z_cy_yld (l' : Nat) (ds : List D) : callY G P l ys (.yld l') ds S k = (l' = l ∧ hold (yldW ys ds S k) (tg _)) := by simp [callY, hold_eq]
theorem z_cy_fn (f : FuncId) (caps ds : List D) : callY G P l ys (.fn f caps) ds S k = funW G P (.fn f caps) ds S k := _root_.id rfl
theorem z_cy_ofn (f : FuncId) (caps ds : List D) : callY G P l ys (.ofn f caps) ds S k = funW G P (.ofn f caps) ds S k := _root_.id rfl

/-! what names no block from a number on -/
theorem nmR_P {a : Nat} {d : D} (h : isP d = true) : nmR a d := fun i _ _ => by cases d <;> first | rfl | (simp [isP] at h)
theorem z_nmR_int (a : Nat) (kk : IntKind) (m : Int) : nmR a (.int kk m) = True := eq_true (nmR_P rfl)
theorem z_nmR_bool (a : Nat) (b : Bool) : nmR a (.bool b) = True := eq_true (nmR_P rfl)
theorem z_nmR_str (a : Nat) (s : List UInt8) : nmR a (.str s) = True := eq_true (nmR_P rfl)
theorem z_nmR_nils (a : Nat) : nmR a .nils = True := eq_true (nmR_P rfl)
theorem z_nmR_any (a : Nat) : nmR a .any = True := eq_true (nmR_P rfl)
theorem z_nmR_agg (a : Nat) (cs : List D) : nmR a (.agg cs) = True := eq_true (nmR_P rfl)
theorem z_nmR_tup (a : Nat) (cs : List D) : nmR a (.tup cs) = True := eq_true (nmR_P rfl)
theorem z_nmR_sl (a x y : Nat) (cs : List D) : nmR a (.sl x y cs) = True := eq_true (nmR_P rfl)
theorem z_nmR_slx (a x y : Nat) (cs : List D) : nmR a (.slx x y cs) = True := eq_true (nmR_P rfl)
theorem z_nmR_rop (a x : Nat) (cs : List D) : nmR a (.rop cs x) = True := eq_true (nmR_P rfl)
theorem z_nmR_fn (a : Nat) (f : FuncId) (cs : List D) : nmR a (.fn f cs) = True := eq_true (nmR_P rfl)
theorem z_nmR_ptr (a id off : Nat) : nmR a (.ptr id off) = (id < a ∨ 1000000 ≤ id) := propext ⟨fun h => by
    refine Classical.byContradiction fun hn => ?_
    have h1 : id < 1000000 := by omega
    have := h id (by omega) h1
    simp [mn] at this, fun h i h1 h2 => by have h2 : i < 1000000 := h2; simp [mn]; omega⟩
theorem z_nmR_osl (a id x y : Nat) : nmR a (.osl id x y) = (id < a ∨ 1000000 ≤ id) := propext ⟨fun h => by
    refine Classical.byContradiction fun hn => ?_
    have h1 : id < 1000000 := by omega
    have := h id (by omega) h1
    simp [mn] at this, fun h i h1 h2 => by have h2 : i < 1000000 := h2; simp [mn]; omega⟩
theorem z_nmR_osw (a id x y z : Nat) : nmR a (.osw id x y z) = (id < a ∨ 1000000 ≤ id) := propext ⟨fun h => by
    refine Classical.byContradiction fun hn => ?_
    have h1 : id < 1000000 := by omega
    have := h id (by omega) h1
    simp [mn] at this, fun h i h1 h2 => by have h2 : i < 1000000 := h2; simp [mn]; omega⟩
def nmRS (a : Nat) : List D → Prop
  | [] => True
  | d :: r => (∀ i, a ≤ i → i < pinB → mnS i d = false) ∧ nmRS a r
theorem nmRS_iff {a : Nat} : ∀ {cs : List D}, nmRS a cs ↔ ∀ i, a ≤ i → i < pinB → cs.any (mnS i) = false
  | [] => by simp [nmRS]
  | d :: r => by
    simp only [nmRS, nmRS_iff (cs := r), List.any_cons, Bool.or_eq_false_iff]
    exact ⟨fun h i h1 h2 => ⟨h.1 i h1 h2, h.2 i h1 h2⟩, fun h => ⟨fun i h1 h2 => (h i h1 h2).1, fun i h1 h2 => (h i h1 h2).2⟩⟩
theorem z_nmR_oag (a : Nat) (cs : List D) : nmR a (.oag cs) = nmRS a cs := propext nmRS_iff.symm
theorem z_nmR_ofn (a : Nat) (f : FuncId) (cs : List D) : nmR a (.ofn f cs) = nmRS a cs := propext nmRS_iff.symm
theorem z_nmRS_nil (a : Nat) : nmRS a [] = True := _root_.id rfl
theorem z_nmRS_int (a : Nat) (kk : IntKind) (m : Int) (r : List D) : nmRS a (.int kk m :: r) = nmRS a r := by simp [nmRS, mnS]
theorem z_nmRS_bool (a : Nat) (b : Bool) (r : List D) : nmRS a (.bool b :: r) = nmRS a r := by simp [nmRS, mnS]
theorem z_nmRS_str (a : Nat) (s : List UInt8) (r : List D) : nmRS a (.str s :: r) = nmRS a r := by simp [nmRS, mnS]
theorem z_nmRS_nils (a : Nat) (r : List D) : nmRS a (.nils :: r) = nmRS a r := by simp [nmRS, mnS]
theorem z_nmRS_any (a : Nat) (r : List D) : nmRS a (.any :: r) = nmRS a r := by simp [nmRS, mnS]
theorem z_nmRS_sl (a x y : Nat) (cs r : List D) : nmRS a (.sl x y cs :: r) = nmRS a r := by simp [nmRS, mnS]
theorem z_nmRS_slx (a x y : Nat) (cs r : List D) : nmRS a (.slx x y cs :: r) = nmRS a r := by simp [nmRS, mnS]
theorem z_nmRS_rop (a x : Nat) (cs r : List D) : nmRS a (.rop cs x :: r) = nmRS a r := by simp [nmRS, mnS]
theorem z_nmRS_fn (a : Nat) (f : FuncId) (cs r : List D) : nmRS a (.fn f cs :: r) = nmRS a r := by simp [nmRS, mnS]
theorem nmRS_key (a id : Nat) : (∀ i, a ≤ i → i < pinB → (id == i) = false) ↔ (id < a ∨ 1000000 ≤ id) := ⟨fun h => by
    refine Classical.byContradiction fun hn => ?_
    have h1 : id < 1000000 := by omega
    have := h id (by omega) h1
    simp at this, fun h i h1 h2 => by have h2 : i < 1000000 := h2; simp; omega⟩
theorem z_nmRS_ptr (a id off : Nat) (r : List D) : nmRS a (.ptr id off :: r) = ((id < a ∨ 1000000 ≤ id) ∧ nmRS a r) := by simp only [nmRS, mnS, nmRS_key]
theorem z_nmRS_osl (a id x y : Nat) (r : List D) : nmRS a (.osl id x y :: r) = ((id < a ∨ 1000000 ≤ id) ∧ nmRS a r) := by simp only [nmRS, mnS, nmRS_key]
theorem z_nmRS_osw (a id x y z : Nat) (r : List D) : nmRS a (.osw id x y z :: r) = ((id < a ∨ 1000000 ≤ id) ∧ nmRS a r) := by simp only [nmRS, mnS, nmRS_key]
theorem z_nmRL_nil (a : Nat) : nmRL a [] = True := by simp [nmRL]
theorem z_nmRL_cons (a : Nat) (d : D) (r : List D) : nmRL a (d :: r) = (nmR a d ∧ nmRL a r) := by simp [nmRL]
theorem z_nmRL_app (a : Nat) (x y : List D) : nmRL a (x ++ y) = (nmRL a x ∧ nmRL a y) := by
  simp only [nmRL, List.mem_append]
  exact propext ⟨fun h => ⟨fun c hc => h c (.inl hc), fun c hc => h c (.inr hc)⟩, fun h c hc => hc.elim (h.1 c) (h.2 c)⟩
theorem z_nmRL_int (a : Nat) (kk : IntKind) (xs : List Int) : nmRL a (xs.map (D.int kk)) = True := eq_true fun d hd => by obtain ⟨x, _, rfl⟩ := List.mem_map.1 hd; exact nmR_P rfl
theorem z_nmRL_str (a : Nat) (xs : List (List UInt8)) : nmRL a (xs.map D.str) = True := eq_true fun d hd => by obtain ⟨x, _, rfl⟩ := List.mem_map.1 hd; exact nmR_P rfl
theorem z_nmRL_byte (a : Nat) (xs : List UInt8) : nmRL a (xs.map bD) = True := eq_true fun d hd => by obtain ⟨x, _, rfl⟩ := List.mem_map.1 hd; exact nmR_P rfl
theorem z_nmRL_rep (a m : Nat) (d : D) : nmRL a (List.replicate m d) = (m = 0 ∨ nmR a d) := by
  simp only [nmRL, List.mem_replicate]
  refine propext ⟨fun h => ?_, fun h c hc => ?_⟩
  · by_cases e : m = 0
    · exact .inl e
    · exact .inr (h d ⟨e, rfl⟩)
  · obtain ⟨h1, rfl⟩ := hc; exact h.resolve_left h1
theorem z_nmRE_nil (a : Nat) : nmRE a [] = True := _root_.id rfl
theorem z_nmRE_cons (a s : Nat) (d : D) (r : List (Nat × D)) : nmRE a ((s, d) :: r) = (nmR a d ∧ nmRE a r) := _root_.id rfl
theorem z_nmRO_nil (a : Nat) : nmRO a [] = True := _root_.id rfl
theorem z_nmRO_cons (a i : Nat) (c : List D) (r : List (Nat × List D)) : nmRO a ((i, c) :: r) = ((i < a ∨ 1000000 ≤ i) ∧ nmRL a c ∧ nmRO a r) := _root_.id rfl

theorem rsW_ok' : ∀ {r : List Nat} {E : List (Nat × D)} {k : List (Nat × D) → Prop}, rsW r E k → ∃ e, k e ∧ ∀ k' : List (Nat × D) → Prop, k' e → rsW r E k'
  | [], E, k, h => ⟨[], h, fun _ h => h⟩
  | t :: r, E, k, h => by
    have key : ∀ {E0 : List (Nat × D)} {k0 : D → Prop}, lkW t E0 k0 → ∃ d, k0 d ∧ ∀ k' : D → Prop, k' d → lkW t E0 k' := by
      intro E0 k0 h
      induction E0 with
      | nil => exact h.elim
      | cons p E0 ih =>
        obtain ⟨s, d⟩ := p
        rw [lkW_cons] at h
        split at h
        · rename_i e; exact ⟨d, h, fun k' hk => by rw [lkW_cons, if_pos e]; exact hk⟩
        · rename_i e
          obtain ⟨d', h1, h2⟩ := ih h
          exact ⟨d', h1, fun k' hk => by rw [lkW_cons, if_neg e]; exact h2 k' hk⟩
    obtain ⟨d, h1, h2⟩ := key (show lkW t E _ from h)
    obtain ⟨e, h3, h4⟩ := rsW_ok' h1
    exact ⟨_, h3, fun k' hk => h2 _ (h4 _ hk)⟩
theorem apW_eq (r E : List (Nat × D)) (f : List (Nat × D) → Prop) : apW r E f = f (r ++ E) := rfl
/-! regions in which variables are laid and stored to -/
theorem z_splitO_nil (hid : List Nat) (f : List (Nat × List D) → List (Nat × List D) → Prop) : splitO hid [] f = f [] [] := _root_.id rfl
theorem z_splitO_cons (hid : List Nat) (i : Nat) (c : List D) (r : List (Nat × List D)) (f : List (Nat × List D) → List (Nat × List D) → Prop) :
    splitO hid ((i, c) :: r) f = if i ∈ hid then splitO hid r (fun dy ow => f ((i, c) :: dy) ow) else splitO hid r (fun dy ow => f dy ((i, c) :: ow)) := by
  simp only [splitO]; split <;> simp_all
theorem z_apO_nil (X : List (Nat × List D)) (f : List (Nat × List D) → Prop) : apO [] X f = f X := _root_.id rfl
theorem z_apO_cons (i : Nat) (c : List D) (o X : List (Nat × List D)) (f : List (Nat × List D) → Prop) : apO ((i, c) :: o) X f = apO o X fun o => f ((i, c) :: o) := _root_.id rfl
def endX (k : Nat → List (Nat × List D) → List (Nat × D) → Prop) (nxt : Nat) (dy : List (Nat × List D)) (E : List (Nat × D)) : Prop := k nxt dy E
def drxK (G : Glob) (P : Program) (ops : List Oper) (n a : Nat) (own : List (Nat × List D)) (rest : List Oper) (nxt : Nat) (dy : List (Nat × List D)) (al : List (Nat × Nat)) (st : List Nat) (k : Nat → List (Nat × List D) → List (Nat × D) → Prop) (S : St) : Prop := withE S fun _ _ E _ => drxW G P ops n a own rest nxt dy al st E k
section
variable {a nxt : Nat} {dy : List (Nat × List D)} {al : List (Nat × Nat)} {st : List Nat} {kX : Nat → List (Nat × List D) → List (Nat × D) → Prop}
theorem z_drxK (ops rest : List Oper) (n' nx' : Nat) (own' : List (Nat × List D)) : drxK G P ops n a own rest nxt dy al st kX ⟨n', nx', env, own'⟩ = drxW G P ops n a own rest nxt dy al st env kX := _root_.id rfl
theorem z_drx_nil (ops : List Oper) : drxW G P ops n a own [] nxt dy al st env kX = kX nxt dy env := _root_.id rfl
def drxS (G : Glob) (P : Program) (ops : List Oper) (n a : Nat) (own : List (Nat × List D)) (dst : Option Tmp) (op : Op) (g : Option (Nat × Bool)) (xs : List Operand) (rest : List Oper) (nxt : Nat) (dy : List (Nat × List D)) (al : List (Nat × Nat)) (st : List Nat) (E : List (Nat × D)) (k : Nat → List (Nat × List D) → List (Nat × D) → Prop) : Prop :=
  grdW ops g ⟨n, a, E, own⟩ (fun S => withE S fun _ _ E' _ => RDW xs E' fun r => exD (fun d => ∀ (E'' : List (Nat × D)) (X : List (Nat × List D)), apW r E'' fun e => apO own X fun o => opW G P op ⟨n, a, e, o⟩ fun x T => x = d ∧ T = ⟨n, a, e, o⟩) (fun d => nmR a d ∧ putW dst d S (drxK G P ops n a own rest nxt dy al st k)) (tgd _)) fun S => putW dst (.tup []) S (drxK G P ops n a own rest nxt dy al st k)
theorem drx_st {op : Op} (h : stb op = true) (h2 : isCv op = false) (ops rest : List Oper) (dst : Option Tmp) (t : TypeId) (pos : String) (after : Array Edge) (g : Option (Nat × Bool)) (xs : List Operand) (hx : op.operands.toList = xs) :
    drxW G P ops n a own (⟨dst, op, t, pos, after, g⟩ :: rest) nxt dy al st env kX = drxS G P ops n a own dst op g xs rest nxt dy al st env kX := by
  subst hx
  rw [drxW_st h h2]
  simp only [drxA, drxS, withE, rdsO, RDW_eq]
  rfl
theorem z_drxS (ops rest : List Oper) (dst : Option Tmp) (op : Op) (g : Option (Nat × Bool)) (xs : List Operand) : drxS G P ops n a own dst op g xs rest nxt dy al st env kX =
    grdW ops g ⟨n, a, env, own⟩ (fun S => withE S fun _ _ E' _ => RDW xs E' fun r => exD (fun d => ∀ (E'' : List (Nat × D)) (X : List (Nat × List D)), apW r E'' fun e => apO own X fun o => opW G P op ⟨n, a, e, o⟩ fun x T => x = d ∧ T = ⟨n, a, e, o⟩) (fun d => nmR a d ∧ putW dst d S (drxK G P ops n a own rest nxt dy al st kX)) (tgd _)) fun S => putW dst (.tup []) S (drxK G P ops n a own rest nxt dy al st kX) := _root_.id rfl
theorem z_drx_move (ops rest : List Oper) (dst : Option Tmp) (t : TypeId) (pos : String) (after : Array Edge) (g : Option (Nat × Bool)) (x : Operand) : drxW G P ops n a own (⟨dst, .move x, t, pos, after, g⟩ :: rest) nxt dy al st env kX = drxS G P ops n a own dst (.move x) g ([x]) rest nxt dy al st env kX := drx_st rfl rfl ops rest dst t pos after g _ (rfl)
theorem z_drx_assign (ops rest : List Oper) (dst : Option Tmp) (t : TypeId) (pos : String) (after : Array Edge) (g : Option (Nat × Bool)) (x : Operand) : drxW G P ops n a own (⟨dst, .assign x, t, pos, after, g⟩ :: rest) nxt dy al st env kX = drxS G P ops n a own dst (.assign x) g ([x]) rest nxt dy al st env kX := drx_st rfl rfl ops rest dst t pos after g _ (rfl)
theorem z_drx_pick (ops rest : List Oper) (dst : Option Tmp) (t : TypeId) (pos : String) (after : Array Edge) (g : Option (Nat × Bool)) (c x y : Operand) : drxW G P ops n a own (⟨dst, .pick c x y, t, pos, after, g⟩ :: rest) nxt dy al st env kX = drxS G P ops n a own dst (.pick c x y) g ([c, x, y]) rest nxt dy al st env kX := drx_st rfl rfl ops rest dst t pos after g _ (rfl)
theorem z_drx_nilCheck (ops rest : List Oper) (dst : Option Tmp) (t : TypeId) (pos : String) (after : Array Edge) (g : Option (Nat × Bool)) (x : Operand) : drxW G P ops n a own (⟨dst, .nilCheck x, t, pos, after, g⟩ :: rest) nxt dy al st env kX = drxS G P ops n a own dst (.nilCheck x) g ([x]) rest nxt dy al st env kX := drx_st rfl rfl ops rest dst t pos after g _ (rfl)
theorem z_drx_binOp (ops rest : List Oper) (dst : Option Tmp) (t : TypeId) (pos : String) (after : Array Edge) (g : Option (Nat × Bool)) (o : BinOp) (ty yt : TypeId) (x y : Operand) : drxW G P ops n a own (⟨dst, .binOp o ty x y yt, t, pos, after, g⟩ :: rest) nxt dy al st env kX = drxS G P ops n a own dst (.binOp o ty x y yt) g ([x, y]) rest nxt dy al st env kX := drx_st rfl rfl ops rest dst t pos after g _ (rfl)
theorem z_drx_unOp (ops rest : List Oper) (dst : Option Tmp) (t : TypeId) (pos : String) (after : Array Edge) (g : Option (Nat × Bool)) (o : UnOp) (ty : TypeId) (x : Operand) : drxW G P ops n a own (⟨dst, .unOp o ty x, t, pos, after, g⟩ :: rest) nxt dy al st env kX = drxS G P ops n a own dst (.unOp o ty x) g ([x]) rest nxt dy al st env kX := drx_st rfl rfl ops rest dst t pos after g _ (rfl)
theorem z_drx_convert (ops rest : List Oper) (dst : Option Tmp) (t : TypeId) (pos : String) (after : Array Edge) (g : Option (Nat × Bool)) (s d : TypeId) (x : Operand) : drxW G P ops n a own (⟨dst, .convert s d x, t, pos, after, g⟩ :: rest) nxt dy al st env kX = drxS G P ops n a own dst (.convert s d x) g ([x]) rest nxt dy al st env kX := drx_st rfl rfl ops rest dst t pos after g _ (rfl)
theorem z_drx_extract (ops rest : List Oper) (dst : Option Tmp) (t : TypeId) (pos : String) (after : Array Edge) (g : Option (Nat × Bool)) (x : Operand) (i : Nat) : drxW G P ops n a own (⟨dst, .extract x i, t, pos, after, g⟩ :: rest) nxt dy al st env kX = drxS G P ops n a own dst (.extract x i) g ([x]) rest nxt dy al st env kX := drx_st rfl rfl ops rest dst t pos after g _ (rfl)
theorem z_drx_load (ops rest : List Oper) (dst : Option Tmp) (t : TypeId) (pos : String) (after : Array Edge) (g : Option (Nat × Bool)) (ty : TypeId) (x : Operand) : drxW G P ops n a own (⟨dst, .load ty x, t, pos, after, g⟩ :: rest) nxt dy al st env kX = drxS G P ops n a own dst (.load ty x) g ([x]) rest nxt dy al st env kX := drx_st rfl rfl ops rest dst t pos after g _ (rfl)
theorem z_drx_indexAddr (ops rest : List Oper) (dst : Option Tmp) (t : TypeId) (pos : String) (after : Array Edge) (g : Option (Nat × Bool)) (ty : TypeId) (x i : Operand) : drxW G P ops n a own (⟨dst, .indexAddr ty x i, t, pos, after, g⟩ :: rest) nxt dy al st env kX = drxS G P ops n a own dst (.indexAddr ty x i) g ([x, i]) rest nxt dy al st env kX := drx_st rfl rfl ops rest dst t pos after g _ (rfl)
theorem z_drx_fieldAddr (ops rest : List Oper) (dst : Option Tmp) (t : TypeId) (pos : String) (after : Array Edge) (g : Option (Nat × Bool)) (ty : TypeId) (x : Operand) (f : Nat) : drxW G P ops n a own (⟨dst, .fieldAddr ty x f, t, pos, after, g⟩ :: rest) nxt dy al st env kX = drxS G P ops n a own dst (.fieldAddr ty x f) g ([x]) rest nxt dy al st env kX := drx_st rfl rfl ops rest dst t pos after g _ (rfl)
theorem z_drx_field (ops rest : List Oper) (dst : Option Tmp) (t : TypeId) (pos : String) (after : Array Edge) (g : Option (Nat × Bool)) (ty : TypeId) (x : Operand) (f : Nat) : drxW G P ops n a own (⟨dst, .field ty x f, t, pos, after, g⟩ :: rest) nxt dy al st env kX = drxS G P ops n a own dst (.field ty x f) g ([x]) rest nxt dy al st env kX := drx_st rfl rfl ops rest dst t pos after g _ (rfl)
theorem z_drx_index (ops rest : List Oper) (dst : Option Tmp) (t : TypeId) (pos : String) (after : Array Edge) (g : Option (Nat × Bool)) (ty : TypeId) (x i : Operand) : drxW G P ops n a own (⟨dst, .index ty x i, t, pos, after, g⟩ :: rest) nxt dy al st env kX = drxS G P ops n a own dst (.index ty x i) g ([x, i]) rest nxt dy al st env kX := drx_st rfl rfl ops rest dst t pos after g _ (rfl)
theorem z_drx_slice (ops rest : List Oper) (dst : Option Tmp) (t : TypeId) (pos : String) (after : Array Edge) (g : Option (Nat × Bool)) (ty : TypeId) (x : Operand) (lo hi mx : Option Operand) : drxW G P ops n a own (⟨dst, .slice ty x lo hi mx, t, pos, after, g⟩ :: rest) nxt dy al st env kX = drxS G P ops n a own dst (.slice ty x lo hi mx) g (x :: (oL lo ++ oL hi ++ oL mx)) rest nxt dy al st env kX := drx_st rfl rfl ops rest dst t pos after g _ (by cases lo <;> cases hi <;> cases mx <;> rfl)
theorem z_drx_s2a (ops rest : List Oper) (dst : Option Tmp) (t : TypeId) (pos : String) (after : Array Edge) (g : Option (Nat × Bool)) (ty : TypeId) (x : Operand) : drxW G P ops n a own (⟨dst, .sliceToArrayPointer ty x, t, pos, after, g⟩ :: rest) nxt dy al st env kX = drxS G P ops n a own dst (.sliceToArrayPointer ty x) g ([x]) rest nxt dy al st env kX := drx_st rfl rfl ops rest dst t pos after g _ (rfl)
theorem z_drx_callb_len (ops rest : List Oper) (dst : Option Tmp) (t : TypeId) (pos : String) (after : Array Edge) (g : Option (Nat × Bool)) (l : List Operand) (ts : Array TypeId) : drxW G P ops n a own (⟨dst, .call ⟨.builtin .len, l.toArray, ts⟩, t, pos, after, g⟩ :: rest) nxt dy al st env kX = drxS G P ops n a own dst (.call ⟨.builtin .len, l.toArray, ts⟩) g (l) rest nxt dy al st env kX := drx_st rfl rfl ops rest dst t pos after g _ (by simp [Op.operands, Call.operands])
theorem z_drx_callb_max (ops rest : List Oper) (dst : Option Tmp) (t : TypeId) (pos : String) (after : Array Edge) (g : Option (Nat × Bool)) (l : List Operand) (ts : Array TypeId) : drxW G P ops n a own (⟨dst, .call ⟨.builtin .max, l.toArray, ts⟩, t, pos, after, g⟩ :: rest) nxt dy al st env kX = drxS G P ops n a own dst (.call ⟨.builtin .max, l.toArray, ts⟩) g (l) rest nxt dy al st env kX := drx_st rfl rfl ops rest dst t pos after g _ (by simp [Op.operands, Call.operands])
theorem z_drx_callb_min (ops rest : List Oper) (dst : Option Tmp) (t : TypeId) (pos : String) (after : Array Edge) (g : Option (Nat × Bool)) (l : List Operand) (ts : Array TypeId) : drxW G P ops n a own (⟨dst, .call ⟨.builtin .min, l.toArray, ts⟩, t, pos, after, g⟩ :: rest) nxt dy al st env kX = drxS G P ops n a own dst (.call ⟨.builtin .min, l.toArray, ts⟩) g (l) rest nxt dy al st env kX := drx_st rfl rfl ops rest dst t pos after g _ (by simp [Op.operands, Call.operands])
theorem z_drx_buildSlice (ops rest : List Oper) (dst : Option Tmp) (t : TypeId) (pos : String) (after : Array Edge) (g : Option (Nat × Bool)) (ty : TypeId) (m : Nat) (l : List (Nat × Operand)) : drxW G P ops n a own (⟨dst, .buildSlice ty m l.toArray, t, pos, after, g⟩ :: rest) nxt dy al st env kX = drxS G P ops n a own dst (.buildSlice ty m l.toArray) g (mpO l) rest nxt dy al st env kX := drx_st rfl rfl ops rest dst t pos after g _ (by simp [Op.operands, mpO_eq])
theorem z_drx_build (ops rest : List Oper) (dst : Option Tmp) (t : TypeId) (pos : String) (after : Array Edge) (g : Option (Nat × Bool)) (ty : TypeId) (l : List (Nat × Operand)) : drxW G P ops n a own (⟨dst, .build ty l.toArray, t, pos, after, g⟩ :: rest) nxt dy al st env kX = drxS G P ops n a own dst (.build ty l.toArray) g (mpO l) rest nxt dy al st env kX := drx_st rfl rfl ops rest dst t pos after g _ (by simp [Op.operands, mpO_eq])
theorem z_drx_makeFunc (ops rest : List Oper) (dst : Option Tmp) (t : TypeId) (pos : String) (after : Array Edge) (g : Option (Nat × Bool)) (f : FuncId) (l : List Operand) : drxW G P ops n a own (⟨dst, .makeFunc (.func f) [].toArray l.toArray, t, pos, after, g⟩ :: rest) nxt dy al st env kX = drxS G P ops n a own dst (.makeFunc (.func f) [].toArray l.toArray) g l rest nxt dy al st env kX := drx_st rfl rfl ops rest dst t pos after g _ (by simp [Op.operands])
theorem z_drx_callv (ops rest : List Oper) (dst : Option Tmp) (t : TypeId) (pos : String) (after : Array Edge) (g : Option (Nat × Bool)) (f : Operand) (r : List Operand) (ts : Array TypeId) : drxW G P ops n a own (⟨dst, .call ⟨.value f, r.toArray, ts⟩, t, pos, after, g⟩ :: rest) nxt dy al st env kX =
    hold (drxA G P ops n a own ⟨dst, .call ⟨.value f, r.toArray, ts⟩, t, pos, after, g⟩ rest nxt dy al st env kX ∨ drxN G P ops n a own ⟨dst, .call ⟨.value f, r.toArray, ts⟩, t, pos, after, g⟩ rest nxt dy al st env kX) (tg _) := by
  rw [drxW_stb (h := rfl), hold_eq]; simp [isCv]
theorem z_drxA_callv (ops rest : List Oper) (dst : Option Tmp) (t : TypeId) (pos : String) (after : Array Edge) (g : Option (Nat × Bool)) (f : Operand) (r : List Operand) (ts : Array TypeId) : drxA G P ops n a own ⟨dst, .call ⟨.value f, r.toArray, ts⟩, t, pos, after, g⟩ rest nxt dy al st env kX =
    grdW ops g ⟨n, a, env, own⟩ (fun S => withE S fun _ _ E' _ => RDW (f :: r) E' fun e0 => hold (exD (fun d => ∀ (E'' : List (Nat × D)) (X : List (Nat × List D)), apW e0 E'' fun e => apO own X fun o => opW G P (.call ⟨.value f, r.toArray, ts⟩) ⟨n, a, e, o⟩ fun x T => x = d ∧ T = ⟨n, a, e, o⟩) (fun d => nmR a d ∧ putW dst d S (drxK G P ops n a own rest nxt dy al st kX)) (tgd _)) (tg _)) fun S => putW dst (.tup []) S (drxK G P ops n a own rest nxt dy al st kX) := by
  have hx : (Op.call ⟨.value f, r.toArray, ts⟩).operands.toList = f :: r := by simp [Op.operands, Call.operands]
  simp only [drxA, withE, rdsO, hx, RDW_eq, hold_eq]
  rfl
theorem z_drx_alloc (ops rest : List Oper) (s : Nat) (ty t : TypeId) (pos : String) (after : Array Edge) : drxW G P ops n a own (⟨some s, .alloc ty, t, pos, after, none⟩ :: rest) nxt dy al st env kX =
    (nxt < 1000000 ∧ s < n ∧ zeroW P ty fun cs => nmRL a cs ∧ drxW G P ops n a own rest (nxt + 1) ((nxt, cs) :: dy) ((nxt, s) :: al) st ((s, .ptr nxt 0) :: env) kX) := by
  simp only [drxW, dsW, true_and]; rfl
def ptX (d : D) (f : Nat → Nat → Prop) : Prop := match d with | .ptr id off => f id off | _ => False
theorem z_ptX (id off : Nat) (f : Nat → Nat → Prop) : ptX (.ptr id off) f = f id off := _root_.id rfl
theorem z_drx_store (ops rest : List Oper) (s : Nat) (x : Operand) (ty t : TypeId) (pos : String) (after : Array Edge) : drxW G P ops n a own (⟨none, .store ty (.tmp s) x, t, pos, after, none⟩ :: rest) nxt dy al st env kX =
    lkW s env fun dp => ptX dp fun id off => noW id st ∧ alW id s al ∧ evW G ⟨n, a, env, own⟩ x fun dx => szW P ty fun sz => clW dx fun ds =>
        ds.length = sz ∧ nmRL a ds ∧ lkoW id dy fun c => off + ds.length ≤ c.length ∧ splW c off ds fun c' => soW id c' dy fun dy' => drxW G P ops n a own rest nxt dy' al (id :: st) env kX := by
  simp only [drxW, tmpW, true_and]; rfl
theorem z_noW_nil (id : Nat) : noW id [] = True := _root_.id rfl
theorem z_noW_cons (id i : Nat) (r : List Nat) : noW id (i :: r) = (¬ id = i ∧ noW id r) := _root_.id rfl
theorem z_alW_nil (id s : Nat) : alW id s [] = True := _root_.id rfl
theorem z_alW_cons (id s i t : Nat) (r : List (Nat × Nat)) : alW id s ((i, t) :: r) = ((id = i → t = s) ∧ alW id s r) := _root_.id rfl
theorem z_exD_all2 (B K : D → Prop) (u : TagD K) : exD (fun d => ∀ _ : List (Nat × List D), B d) K u = exD B K u :=
  propext ⟨fun h => by obtain ⟨d, h1, h2⟩ := h.get; exact ⟨d, h1 [], h2⟩, fun h => by obtain ⟨d, h1, h2⟩ := h.get; exact ⟨d, fun _ => h1, h2⟩⟩
end
end

/-- A call in such a region that turns nothing. -/
theorem cv_ex {A B : Prop} {u : Tag (A ∨ B)} (h : A) : hold (A ∨ B) u := .mk (.inl h)
/-- A call in such a region whose result is a slice (or the like) of new memory: data d, the block's cells cs. -/
theorem cv_new (d : D) (cs : List D) {G : Glob} {P : Program} {ops : List Oper} {n a s : Nat} {own : List (Nat × List D)} {t : TypeId} {pos : String} {after : Array Edge} {f : Operand} {r : List Operand} {ts : Array TypeId} {rest : List Oper} {nxt : Nat} {dy : List (Nat × List D)} {al : List (Nat × Nat)} {st : List Nat} {E : List (Nat × D)} {kX : Nat → List (Nat × List D) → List (Nat × D) → Prop} {A : Prop} {u : Tag (A ∨ drxN G P ops n a own ⟨some s, .call ⟨.value f, r.toArray, ts⟩, t, pos, after, none⟩ rest nxt dy al st E kX)}
    (hd : ∀ i, a ≤ i → i < 1000000 → i ≠ nxt → mn i d = false)
    (h : nxt < 1000000 ∧ s < n ∧ RDW (f :: r) E fun e0 => nmRL a cs ∧ (∀ (E' : List (Nat × D)) (X : List (Nat × List D)), (∀ A, nmW nxt X A = A) → apW e0 E' fun e => apO own X fun o => opW G P (.call ⟨.value f, r.toArray, ts⟩) ⟨n, nxt, e, o⟩ fun x T => x = d ∧ T = ⟨n, nxt + 1, purge nxt (e0 ++ E'), (nxt, cs) :: (own ++ X)⟩) ∧
      drxW G P ops n a own rest (nxt + 1) ((nxt, cs) :: dy) ((nxt, s) :: al) st ((s, d) :: E) kX) : hold (A ∨ drxN G P ops n a own ⟨some s, .call ⟨.value f, r.toArray, ts⟩, t, pos, after, none⟩ rest nxt dy al st E kX) u := by
  refine .mk (.inr ⟨rfl, h.1, h.2.1, ?_⟩)
  have hx : rdsO (.call ⟨.value f, r.toArray, ts⟩) = (f :: r).filterMap rdO := by simp [rdsO, Op.operands, Call.operands]
  have h3 := h.2.2
  rw [← RDW_eq, ← hx] at h3
  obtain ⟨e0, h4, h5⟩ := rsW_ok' h3
  exact h5 _ ⟨d, cs, h4.1, hd, fun E' X hX => by have := h4.2.1 E' X hX; rw [apW_eq] at this; exact this, h4.2.2⟩
/-- A region in which variables are laid and stored to; 'hid': the own blocks that it stores to. -/
theorem rgn_x (m : Nat) (hid : List Nat) {G : Glob} {P : Program} {l : List Oper} {n nx : Nat} {env : List (Nat × D)} {own : List (Nat × List D)} {k : St → Prop} {u : Tag (rgnT G P l ⟨n, nx, env, own⟩ k)} (h1 : (decide (m ≤ l.length) && drwB l m) = true)
    (h : nmRE nx env ∧ nmRO nx own ∧ splitO hid own fun dy ow => drxW G P l n nx ow (l.take m) nx dy [] [] env fun nxt dy' E => apO dy' ow fun o => opsW G P l (l.drop m) ⟨n, nxt, E, o⟩ k) : hold (rgnT G P l ⟨n, nx, env, own⟩ k) u := by
  rw [Bool.and_eq_true, decide_eq_true_eq] at h1
  exact .mk (.inr (.inr (.inr (.inl ⟨m, hid, h1.1, h1.2, h⟩))))
theorem rgny_t {G : Glob} {P : Program} {lp : Nat} {ys : List (List D)} {l : List Oper} {S : St} {k : St → Prop} {u : Tag (rgnYT G P lp ys l S k)} (h : hold (rgnT G P l S k) (tg _)) : hold (rgnYT G P lp ys l S k) u := .mk (.inl h.get)
/-- The first m operations may come in any order; behind them something is yielded. -/
theorem rgny_m (m : Nat) {G : Glob} {P : Program} {lp : Nat} {ys : List (List D)} {l : List Oper} {n nx : Nat} {env : List (Nat × D)} {own : List (Nat × List D)} {k : St → Prop} {u : Tag (rgnYT G P lp ys l ⟨n, nx, env, own⟩ k)} (h1 : (decide (m < l.length) && (l.take m).all (fun o => stb o.op) && drwB l m) = true)
    (h : drwW G P l n nx own (l.take m) env fun S => opsY G P lp ys l (l.drop m) S k) : hold (rgnYT G P lp ys l ⟨n, nx, env, own⟩ k) u := by
  rw [Bool.and_eq_true, Bool.and_eq_true, decide_eq_true_eq] at h1
  exact .mk (.inr ⟨m, h1.1.1, h1.1.2, h1.2, h⟩)
/-- The i-th thing is yielded; T: what is kept of what is known. -/
theorem yld_mk (i : Nat) (T : List (Nat × D)) {ys : List (List D)} {ds : List D} {n nx : Nat} {env : List (Nat × D)} {own : List (Nat × List D)} {k : D → St → Prop} {u : Tag (yldW ys ds ⟨n, nx, env, own⟩ k)} (hf : ∀ d ∈ ds.map ogD, flA d) (ho : lkoW 1000000 own fun c => c = [.int .i64 i]) (hi : ys[i]? = some (ds.map ogD)) (hb : (i : Int) + 1 ≤ 9223372036854775807)
    (h : wkE env T ∧ k (.bool true) ⟨n, nx, T, [(1000000, [.int .i64 ((i + 1 : Nat) : Int)])]⟩) : hold (yldW ys ds ⟨n, nx, env, own⟩ k) u := by
  refine .mk ⟨hf, ?_⟩
  have key : ∀ {o : List (Nat × List D)} {k1 k2 : List D → Prop}, (∀ c, k1 c → k2 c) → lkoW 1000000 o k1 → lkoW 1000000 o k2 := by
    intro o k1 k2 hk h
    induction o with
    | nil => exact h
    | cons p r ih =>
      obtain ⟨s, d⟩ := p
      rw [lkoW_cons] at h ⊢
      split
      · rename_i e; rw [if_pos e] at h; exact hk _ h
      · rename_i e; rw [if_neg e] at h; exact ih h
  exact key (fun c hc => ⟨i, T, hc, hi, hb, h.1, h.2⟩) ho
/-- The loop over what f yields: ys; T: what of the frame is to be known afterwards; I i: the own blocks when i things have come. -/
theorem rng_mk (ys : List (List D)) (T : List (Nat × D)) (I : Nat → St) {G : Glob} {P : Program} {f : FuncId} {caps : List D} {ps : List Nat} {A B : St → (Ex → St → Prop) → Prop} {n nx : Nat} {env : List (Nat × D)} {own : List (Nat × List D)} {K : Ex → St → Prop} {u : Tag (rngW G P (.fn f caps) ps A B ⟨n, nx, env, own⟩ K)}
    (hY : YieldsC G P f caps ys) (hl : ∀ ds ∈ ys, ds.length = ps.length) (h1 : ps.Nodup ∧ ∀ p ∈ ps, p < n) (h2 : wkE env T ∧ noO 1000001 own ∧ wkO ((1000001, sndE T) :: own) (I 0).own)
    (h3 : ∀ (i : Nat) ds, ys[i]? = some ds → wfL ds (lkoW 1000001 (I i).own fun cs => A ⟨n, (I i).nx, parE ps ds (zpE T cs), (I i).own⟩ (onlyN fun S1 => B S1 (onlyN fun S2 => wkO S2.own (I (i + 1)).own))))
    (h4 : lkoW 1000001 (I ys.length).own fun cs => dropO 1000001 (I ys.length).own fun own2 => K .nrm ⟨n, (I ys.length).nx, zpE T cs, own2⟩) : hold (rngW G P (.fn f caps) ps A B ⟨n, nx, env, own⟩ K) u :=
  .mk ⟨ys, T, I, hY, hl, h1.1, h1.2, h2.1, h2.2.1, h2.2.2, h3, h4⟩
/-! a value that names blocks of the callee's own -/
theorem FnO.mk {G : Glob} {P : Program} {f : FuncId} {fn : Func} {c : Code} {ds : List D} {d : D} {m n : Nat} {os : List (Nat × List D)} {rs : Array ResultVar} (hf : P.funcs[f]? = some fn) (hb : fn.body = some c) (hn : (fn.name == "runtime.NumGoroutine") = false) (hnt : fn.ntmps = n) (hrs : fn.results = rs)
    (h : bodyW G P n rs.toList c ds fun S rds => rds = [d] ∧ wkO S.own os) : FnO G P f ds m d os := by
  subst hnt hrs
  refine ⟨⟨fn, hf, by rw [hb]; rfl, hn⟩, fun b0 vs hG hL hgh ha => (body_ok hf hb h hG ha).mono ?_⟩
  rintro e w' ⟨rvs, S, φ, rds, tmps, rfl, ⟨rfl, hk⟩, hs, hl, hr⟩
  have hsub := wkO_ok hk
  have hF : ∀ b, FSx φ S.own w' b → FSx φ os w' b := fun b hb => ⟨hb.1, fun i c hc => hb.2 i c (hsub i c hc), hb.3⟩
  match rvs, hl with
  | [v], _ =>
    refine ⟨v, φ, rfl, hs.below.below hL, hs.base, fun i c hc => ?_, fun i i' c c' b h1 h2 => hs.inj i i' c c' b (hsub _ _ h1) (hsub _ _ h2), (hr 0 v d rfl rfl).mono (fun _ _ => rfl) hF⟩
    obtain ⟨h1, h2⟩ := hs.own i c (hsub i c hc)
    exact ⟨h1.mono (fun _ _ => rfl) hF fun _ _ => rfl, fun b hb => (h2 b hb).resolve_right (hL b)⟩
theorem call_o {G : Glob} {P : Program} {f : FuncId} {ds : List D} {S : St} {k : D → St → Prop} {m : Nat} {d : D} {os : List (Nat × List D)} {u : Tag (callW G P f ds false S k)} (h : FnO G P f ds m d os) (hd : ltD m d ∧ ltO m os) (hk : S.nx + m ≤ 1000000 ∧ nmRE S.nx S.env ∧ nmRO S.nx S.own ∧ apO (shO S.nx os) S.own fun own' => k (shD S.nx d) ⟨S.n, S.nx + m, S.env, own'⟩) : hold (callW G P f ds false S k) u :=
  .mk <| .inl <| .inr <| .inr <| .inr ⟨rfl, m, d, os, h, hd.1, hd.2, hk.1, hk.2.1, hk.2.2.1, hk.2.2.2⟩
section
variable (k i o s m : Nat) (cs r : List D) (os : List (Nat × List D))
theorem z_shD_oag : shD k (.oag cs) = .oag (cs.map (shS k)) := _root_.id rfl
theorem z_shD_osl : shD k (.osl i s m) = .osl (i + k) s m := _root_.id rfl
theorem z_shD_ptr : shD k (.ptr i o) = .ptr (i + k) o := _root_.id rfl
theorem z_shS_osl : shS k (.osl i s m) = .osl (i + k) s m := _root_.id rfl
theorem z_shS_ptr : shS k (.ptr i o) = .ptr (i + k) o := _root_.id rfl
theorem z_shS_int (kk : IntKind) (x : Int) : shS k (.int kk x) = .int kk x := _root_.id rfl
theorem z_shS_bool (b : Bool) : shS k (.bool b) = .bool b := _root_.id rfl
theorem z_shS_str (x : List UInt8) : shS k (.str x) = .str x := _root_.id rfl
theorem z_shS_nils : shS k .nils = .nils := _root_.id rfl
theorem z_shS_sl : shS k (.sl s m cs) = .sl s m cs := _root_.id rfl
theorem z_shS_slx : shS k (.slx s m cs) = .slx s m cs := _root_.id rfl
theorem z_shO_nil : shO k [] = [] := _root_.id rfl
theorem z_shO_cons : shO k ((i, cs) :: os) = (i + k, cs.map (shS k)) :: shO k os := _root_.id rfl
theorem z_mapS_nil (f : D → D) : List.map f [] = [] := _root_.id rfl
theorem z_mapS_cons (d : D) : List.map (shS k) (d :: r) = shS k d :: List.map (shS k) r := _root_.id rfl
theorem shS_P {d : D} (h : isP d = true) : shS k d = d := by cases d <;> first | rfl | (simp [isP] at h)
theorem mapS_P {cs : List D} (h : allP cs) : List.map (shS k) cs = cs := by
  conv => rhs; rw [← List.map_id cs]
  exact List.map_congr_left fun d hd => shS_P k (h d hd)
theorem z_mapS_int (kk : IntKind) (xs : List Int) : List.map (shS k) (xs.map (D.int kk)) = xs.map (D.int kk) := mapS_P k fun c hc => by obtain ⟨_, _, rfl⟩ := List.mem_map.1 hc; rfl
theorem z_mapS_str (xs : List (List UInt8)) : List.map (shS k) (xs.map D.str) = xs.map D.str := mapS_P k fun c hc => by obtain ⟨_, _, rfl⟩ := List.mem_map.1 hc; rfl
theorem z_mapS_byte (xs : List UInt8) : List.map (shS k) (xs.map bD) = xs.map bD := mapS_P k fun c hc => by obtain ⟨_, _, rfl⟩ := List.mem_map.1 hc; rfl
end
theorem ltL_P {m : Nat} : ∀ {cs : List D}, allP cs → ltL m cs
  | [], _ => trivial
  | d :: r, h => ⟨by have := h d (by simp); cases d <;> first | trivial | (simp [isP] at this), ltL_P fun c hc => h c (List.mem_cons_of_mem _ hc)⟩
section
variable (m i o s k : Nat) (cs r : List D) (os : List (Nat × List D))
theorem z_ltD_oag : ltD m (.oag cs) = ltL m cs := _root_.id rfl
theorem z_ltD_osl : ltD m (.osl i s k) = (i < m) := _root_.id rfl
theorem z_ltD_ptr : ltD m (.ptr i o) = (i < m) := _root_.id rfl
theorem z_ltL_nil : ltL m [] = True := _root_.id rfl
theorem z_ltL_cons (d : D) : ltL m (d :: r) = (ltS m d ∧ ltL m r) := _root_.id rfl
theorem z_ltS_osl : ltS m (.osl i s k) = (i < m) := _root_.id rfl
theorem z_ltS_ptr : ltS m (.ptr i o) = (i < m) := _root_.id rfl
theorem z_ltS_int (kk : IntKind) (x : Int) : ltS m (.int kk x) = True := _root_.id rfl
theorem z_ltS_bool (b : Bool) : ltS m (.bool b) = True := _root_.id rfl
theorem z_ltS_str (x : List UInt8) : ltS m (.str x) = True := _root_.id rfl
theorem z_ltS_nils : ltS m .nils = True := _root_.id rfl
theorem z_ltS_sl : ltS m (.sl s k cs) = True := _root_.id rfl
theorem z_ltS_slx : ltS m (.slx s k cs) = True := _root_.id rfl
theorem z_ltO_nil : ltO m [] = True := _root_.id rfl
theorem z_ltO_cons : ltO m ((i, cs) :: os) = (i < m ∧ ltL m cs ∧ ltO m os) := _root_.id rfl
theorem z_ltL_int (kk : IntKind) (xs : List Int) : ltL m (xs.map (D.int kk)) = True := eq_true (ltL_P fun c hc => by obtain ⟨_, _, rfl⟩ := List.mem_map.1 hc; rfl)
theorem z_ltL_str (xs : List (List UInt8)) : ltL m (xs.map D.str) = True := eq_true (ltL_P fun c hc => by obtain ⟨_, _, rfl⟩ := List.mem_map.1 hc; rfl)
theorem z_ltL_byte (xs : List UInt8) : ltL m (xs.map bD) = True := eq_true (ltL_P fun c hc => by obtain ⟨_, _, rfl⟩ := List.mem_map.1 hc; rfl)
end
theorem Fn.outW {G : Glob} {P : Program} {f : FuncId} {ds : List D} {d d' : D} (h : Fn G P f ds d') (hw : DW d' d) : Fn G P f ds d :=
  ⟨h.1, fun b0 vs hG hL ha => (h.2 b0 vs hG hL ha).mono fun _ _ ⟨v, h1, h2, h3⟩ => ⟨v, h1, hw.rep h2, h3⟩⟩
theorem FnF.outW {G : Glob} {P : Program} {f : FuncId} {ds : List D} {d d' : D} (h : FnF G P f ds d') (hw : DW d' d) : FnF G P f ds d :=
  ⟨h.1, fun b0 vs hG hL ha => (h.2 b0 vs hG hL ha).mono fun _ _ ⟨v, h1, h2, h3⟩ => ⟨v, h1, hw.rep h2, h3⟩⟩
theorem FnF.weak {G : Glob} {P : Program} {f : FuncId} {ds ds' : List D} {d : D} (h : FnF G P f ds d) (hw : LW ds' ds) : FnF G P f ds' d :=
  ⟨h.1, fun b0 vs hG hL ha => h.2 b0 vs hG hL (hw.args ha)⟩
theorem FnF.out {G : Glob} {P : Program} {f : FuncId} {ds : List D} {d d' : D} (h : FnF G P f ds d) (e : d = d') : FnF G P f ds d' := e ▸ h
theorem FnF.inp {G : Glob} {P : Program} {f : FuncId} {ds ds' : List D} {d : D} (h : FnF G P f ds d) (e : ds = ds') : FnF G P f ds' d := e ▸ h
theorem z_mn_yld (id l : Nat) (f : D → Prop) : mnW id (.yld l) f = f (.yld l) := _root_.id rfl

/-! ### Regions with a chain -/
def putF (dst : Option Tmp) (d : D) (E : List (Nat × D)) (f : List (Nat × D) → Prop) : Prop := f (putE dst d E)
def drcK (G : Glob) (P : Program) (ops : List Oper) (n a : Nat) (own : List (Nat × List D)) (tc bs : List Nat) (rest : List Oper) (i : Nat) (k : List (Nat × D) → Prop) (S : St) : Prop := withE S fun _ _ E _ => drcW G P ops n a own tc bs rest i E k
def drcS (G : Glob) (P : Program) (ops : List Oper) (n a : Nat) (own : List (Nat × List D)) (tc bs : List Nat) (dst : Option Tmp) (op : Op) (g : Option (Nat × Bool)) (xs : List Operand) (rest : List Oper) (i : Nat) (E : List (Nat × D)) (k : List (Nat × D) → Prop) : Prop :=
  grdW ops g ⟨n, a, E, own⟩ (fun S => withE S fun _ _ E' _ => RDW xs E' fun r => exD (fun d => ∀ (E'' : List (Nat × D)) (X : List (Nat × List D)), apW r E'' fun e => apO own X fun o => opW G P op ⟨n, a, e, o⟩ fun x T => x = d ∧ T = ⟨n, a, e, o⟩) (fun d => nmT tc d ∧ putW dst d S (drcK G P ops n a own tc bs rest (i + 1) k)) (tgd _)) fun S => putW dst (.tup []) S (drcK G P ops n a own tc bs rest (i + 1) k)
section
variable {G : Glob} {P : Program} {n a q : Nat} {own : List (Nat × List D)} {tc bs sl : List Nat} {env : List (Nat × D)} {kE : List (Nat × D) → Prop}
theorem z_putF_none (d : D) (f : List (Nat × D) → Prop) : putF none d env f = f env := _root_.id rfl
theorem z_putF_some (s : Nat) (d : D) (f : List (Nat × D) → Prop) : putF (some s) d env f = f ((s, d) :: env) := _root_.id rfl
theorem z_drcK (ops rest : List Oper) (n' nx' : Nat) (own' : List (Nat × List D)) : drcK G P ops n a own tc bs rest q kE ⟨n', nx', env, own'⟩ = drcW G P ops n a own tc bs rest q env kE := _root_.id rfl
theorem z_drc_nil (ops : List Oper) : drcW G P ops n a own tc bs [] q env kE = kE env := _root_.id rfl
theorem z_drcS (ops rest : List Oper) (dst : Option Tmp) (op : Op) (g : Option (Nat × Bool)) (xs : List Operand) : drcS G P ops n a own tc bs dst op g xs rest q env kE =
    grdW ops g ⟨n, a, env, own⟩ (fun S => withE S fun _ _ E' _ => RDW xs E' fun r => exD (fun d => ∀ (E'' : List (Nat × D)) (X : List (Nat × List D)), apW r E'' fun e => apO own X fun o => opW G P op ⟨n, a, e, o⟩ fun x T => x = d ∧ T = ⟨n, a, e, o⟩) (fun d => nmT tc d ∧ putW dst d S (drcK G P ops n a own tc bs rest (q + 1) kE)) (tgd _)) fun S => putW dst (.tup []) S (drcK G P ops n a own tc bs rest (q + 1) kE) := _root_.id rfl
theorem drc_st {op : Op} (h : stb op = true) (ops rest : List Oper) (dst : Option Tmp) (t : TypeId) (pos : String) (after : Array Edge) (g : Option (Nat × Bool)) (xs : List Operand) (hx : op.operands.toList = xs) :
    drcW G P ops n a own tc bs (⟨dst, op, t, pos, after, g⟩ :: rest) q env kE = nbW q (putF dst .any env fun E => dstP n dst ∧ drcW G P ops n a own tc bs rest (q + 1) E kE) (drcS G P ops n a own tc bs dst op g xs rest q env kE) bs := by
  subst hx
  rw [drcW]
  simp only [h, true_and, drcS, withE, rdsO, RDW_eq]
  rfl
theorem drc_ns {op : Op} (h : stb op = false) (ops rest : List Oper) (dst : Option Tmp) (t : TypeId) (pos : String) (after : Array Edge) (g : Option (Nat × Bool)) :
    drcW G P ops n a own tc bs (⟨dst, op, t, pos, after, g⟩ :: rest) q env kE = nbW q (putF dst .any env fun E => dstP n dst ∧ drcW G P ops n a own tc bs rest (q + 1) E kE) False bs := by
  rw [drcW]
  simp only [h, Bool.false_eq_true, false_and]
  rfl
theorem z_drc_move (ops rest : List Oper) (dst : Option Tmp) (t : TypeId) (pos : String) (after : Array Edge) (g : Option (Nat × Bool)) (x : Operand) : drcW G P ops n a own tc bs (⟨dst, .move x, t, pos, after, g⟩ :: rest) q env kE = nbW q (putF dst .any env fun E => dstP n dst ∧ drcW G P ops n a own tc bs rest (q + 1) E kE) (drcS G P ops n a own tc bs dst (.move x) g ([x]) rest q env kE) bs := drc_st rfl ops rest dst t pos after g _ (rfl)
theorem z_drc_assign (ops rest : List Oper) (dst : Option Tmp) (t : TypeId) (pos : String) (after : Array Edge) (g : Option (Nat × Bool)) (x : Operand) : drcW G P ops n a own tc bs (⟨dst, .assign x, t, pos, after, g⟩ :: rest) q env kE = nbW q (putF dst .any env fun E => dstP n dst ∧ drcW G P ops n a own tc bs rest (q + 1) E kE) (drcS G P ops n a own tc bs dst (.assign x) g ([x]) rest q env kE) bs := drc_st rfl ops rest dst t pos after g _ (rfl)
theorem z_drc_pick (ops rest : List Oper) (dst : Option Tmp) (t : TypeId) (pos : String) (after : Array Edge) (g : Option (Nat × Bool)) (c x y : Operand) : drcW G P ops n a own tc bs (⟨dst, .pick c x y, t, pos, after, g⟩ :: rest) q env kE = nbW q (putF dst .any env fun E => dstP n dst ∧ drcW G P ops n a own tc bs rest (q + 1) E kE) (drcS G P ops n a own tc bs dst (.pick c x y) g ([c, x, y]) rest q env kE) bs := drc_st rfl ops rest dst t pos after g _ (rfl)
theorem z_drc_nilCheck (ops rest : List Oper) (dst : Option Tmp) (t : TypeId) (pos : String) (after : Array Edge) (g : Option (Nat × Bool)) (x : Operand) : drcW G P ops n a own tc bs (⟨dst, .nilCheck x, t, pos, after, g⟩ :: rest) q env kE = nbW q (putF dst .any env fun E => dstP n dst ∧ drcW G P ops n a own tc bs rest (q + 1) E kE) (drcS G P ops n a own tc bs dst (.nilCheck x) g ([x]) rest q env kE) bs := drc_st rfl ops rest dst t pos after g _ (rfl)
theorem z_drc_binOp (ops rest : List Oper) (dst : Option Tmp) (t : TypeId) (pos : String) (after : Array Edge) (g : Option (Nat × Bool)) (o : BinOp) (ty yt : TypeId) (x y : Operand) : drcW G P ops n a own tc bs (⟨dst, .binOp o ty x y yt, t, pos, after, g⟩ :: rest) q env kE = nbW q (putF dst .any env fun E => dstP n dst ∧ drcW G P ops n a own tc bs rest (q + 1) E kE) (drcS G P ops n a own tc bs dst (.binOp o ty x y yt) g ([x, y]) rest q env kE) bs := drc_st rfl ops rest dst t pos after g _ (rfl)
theorem z_drc_unOp (ops rest : List Oper) (dst : Option Tmp) (t : TypeId) (pos : String) (after : Array Edge) (g : Option (Nat × Bool)) (o : UnOp) (ty : TypeId) (x : Operand) : drcW G P ops n a own tc bs (⟨dst, .unOp o ty x, t, pos, after, g⟩ :: rest) q env kE = nbW q (putF dst .any env fun E => dstP n dst ∧ drcW G P ops n a own tc bs rest (q + 1) E kE) (drcS G P ops n a own tc bs dst (.unOp o ty x) g ([x]) rest q env kE) bs := drc_st rfl ops rest dst t pos after g _ (rfl)
theorem z_drc_convert (ops rest : List Oper) (dst : Option Tmp) (t : TypeId) (pos : String) (after : Array Edge) (g : Option (Nat × Bool)) (s d : TypeId) (x : Operand) : drcW G P ops n a own tc bs (⟨dst, .convert s d x, t, pos, after, g⟩ :: rest) q env kE = nbW q (putF dst .any env fun E => dstP n dst ∧ drcW G P ops n a own tc bs rest (q + 1) E kE) (drcS G P ops n a own tc bs dst (.convert s d x) g ([x]) rest q env kE) bs := drc_st rfl ops rest dst t pos after g _ (rfl)
theorem z_drc_extract (ops rest : List Oper) (dst : Option Tmp) (t : TypeId) (pos : String) (after : Array Edge) (g : Option (Nat × Bool)) (x : Operand) (i : Nat) : drcW G P ops n a own tc bs (⟨dst, .extract x i, t, pos, after, g⟩ :: rest) q env kE = nbW q (putF dst .any env fun E => dstP n dst ∧ drcW G P ops n a own tc bs rest (q + 1) E kE) (drcS G P ops n a own tc bs dst (.extract x i) g ([x]) rest q env kE) bs := drc_st rfl ops rest dst t pos after g _ (rfl)
theorem z_drc_load (ops rest : List Oper) (dst : Option Tmp) (t : TypeId) (pos : String) (after : Array Edge) (g : Option (Nat × Bool)) (ty : TypeId) (x : Operand) : drcW G P ops n a own tc bs (⟨dst, .load ty x, t, pos, after, g⟩ :: rest) q env kE = nbW q (putF dst .any env fun E => dstP n dst ∧ drcW G P ops n a own tc bs rest (q + 1) E kE) (drcS G P ops n a own tc bs dst (.load ty x) g ([x]) rest q env kE) bs := drc_st rfl ops rest dst t pos after g _ (rfl)
theorem z_drc_indexAddr (ops rest : List Oper) (dst : Option Tmp) (t : TypeId) (pos : String) (after : Array Edge) (g : Option (Nat × Bool)) (ty : TypeId) (x i : Operand) : drcW G P ops n a own tc bs (⟨dst, .indexAddr ty x i, t, pos, after, g⟩ :: rest) q env kE = nbW q (putF dst .any env fun E => dstP n dst ∧ drcW G P ops n a own tc bs rest (q + 1) E kE) (drcS G P ops n a own tc bs dst (.indexAddr ty x i) g ([x, i]) rest q env kE) bs := drc_st rfl ops rest dst t pos after g _ (rfl)
theorem z_drc_fieldAddr (ops rest : List Oper) (dst : Option Tmp) (t : TypeId) (pos : String) (after : Array Edge) (g : Option (Nat × Bool)) (ty : TypeId) (x : Operand) (f : Nat) : drcW G P ops n a own tc bs (⟨dst, .fieldAddr ty x f, t, pos, after, g⟩ :: rest) q env kE = nbW q (putF dst .any env fun E => dstP n dst ∧ drcW G P ops n a own tc bs rest (q + 1) E kE) (drcS G P ops n a own tc bs dst (.fieldAddr ty x f) g ([x]) rest q env kE) bs := drc_st rfl ops rest dst t pos after g _ (rfl)
theorem z_drc_field (ops rest : List Oper) (dst : Option Tmp) (t : TypeId) (pos : String) (after : Array Edge) (g : Option (Nat × Bool)) (ty : TypeId) (x : Operand) (f : Nat) : drcW G P ops n a own tc bs (⟨dst, .field ty x f, t, pos, after, g⟩ :: rest) q env kE = nbW q (putF dst .any env fun E => dstP n dst ∧ drcW G P ops n a own tc bs rest (q + 1) E kE) (drcS G P ops n a own tc bs dst (.field ty x f) g ([x]) rest q env kE) bs := drc_st rfl ops rest dst t pos after g _ (rfl)
theorem z_drc_index (ops rest : List Oper) (dst : Option Tmp) (t : TypeId) (pos : String) (after : Array Edge) (g : Option (Nat × Bool)) (ty : TypeId) (x i : Operand) : drcW G P ops n a own tc bs (⟨dst, .index ty x i, t, pos, after, g⟩ :: rest) q env kE = nbW q (putF dst .any env fun E => dstP n dst ∧ drcW G P ops n a own tc bs rest (q + 1) E kE) (drcS G P ops n a own tc bs dst (.index ty x i) g ([x, i]) rest q env kE) bs := drc_st rfl ops rest dst t pos after g _ (rfl)
theorem z_drc_slice (ops rest : List Oper) (dst : Option Tmp) (t : TypeId) (pos : String) (after : Array Edge) (g : Option (Nat × Bool)) (ty : TypeId) (x : Operand) (lo hi mx : Option Operand) : drcW G P ops n a own tc bs (⟨dst, .slice ty x lo hi mx, t, pos, after, g⟩ :: rest) q env kE = nbW q (putF dst .any env fun E => dstP n dst ∧ drcW G P ops n a own tc bs rest (q + 1) E kE) (drcS G P ops n a own tc bs dst (.slice ty x lo hi mx) g (x :: (oL lo ++ oL hi ++ oL mx)) rest q env kE) bs := drc_st rfl ops rest dst t pos after g _ (by cases lo <;> cases hi <;> cases mx <;> rfl)
theorem z_drc_s2a (ops rest : List Oper) (dst : Option Tmp) (t : TypeId) (pos : String) (after : Array Edge) (g : Option (Nat × Bool)) (ty : TypeId) (x : Operand) : drcW G P ops n a own tc bs (⟨dst, .sliceToArrayPointer ty x, t, pos, after, g⟩ :: rest) q env kE = nbW q (putF dst .any env fun E => dstP n dst ∧ drcW G P ops n a own tc bs rest (q + 1) E kE) (drcS G P ops n a own tc bs dst (.sliceToArrayPointer ty x) g ([x]) rest q env kE) bs := drc_st rfl ops rest dst t pos after g _ (rfl)
theorem z_drc_callb_len (ops rest : List Oper) (dst : Option Tmp) (t : TypeId) (pos : String) (after : Array Edge) (g : Option (Nat × Bool)) (l : List Operand) (ts : Array TypeId) : drcW G P ops n a own tc bs (⟨dst, .call ⟨.builtin .len, l.toArray, ts⟩, t, pos, after, g⟩ :: rest) q env kE = nbW q (putF dst .any env fun E => dstP n dst ∧ drcW G P ops n a own tc bs rest (q + 1) E kE) (drcS G P ops n a own tc bs dst (.call ⟨.builtin .len, l.toArray, ts⟩) g (l) rest q env kE) bs := drc_st rfl ops rest dst t pos after g _ (by simp [Op.operands, Call.operands])
theorem z_drc_callb_max (ops rest : List Oper) (dst : Option Tmp) (t : TypeId) (pos : String) (after : Array Edge) (g : Option (Nat × Bool)) (l : List Operand) (ts : Array TypeId) : drcW G P ops n a own tc bs (⟨dst, .call ⟨.builtin .max, l.toArray, ts⟩, t, pos, after, g⟩ :: rest) q env kE = nbW q (putF dst .any env fun E => dstP n dst ∧ drcW G P ops n a own tc bs rest (q + 1) E kE) (drcS G P ops n a own tc bs dst (.call ⟨.builtin .max, l.toArray, ts⟩) g (l) rest q env kE) bs := drc_st rfl ops rest dst t pos after g _ (by simp [Op.operands, Call.operands])
theorem z_drc_callb_min (ops rest : List Oper) (dst : Option Tmp) (t : TypeId) (pos : String) (after : Array Edge) (g : Option (Nat × Bool)) (l : List Operand) (ts : Array TypeId) : drcW G P ops n a own tc bs (⟨dst, .call ⟨.builtin .min, l.toArray, ts⟩, t, pos, after, g⟩ :: rest) q env kE = nbW q (putF dst .any env fun E => dstP n dst ∧ drcW G P ops n a own tc bs rest (q + 1) E kE) (drcS G P ops n a own tc bs dst (.call ⟨.builtin .min, l.toArray, ts⟩) g (l) rest q env kE) bs := drc_st rfl ops rest dst t pos after g _ (by simp [Op.operands, Call.operands])
theorem z_drc_buildSlice (ops rest : List Oper) (dst : Option Tmp) (t : TypeId) (pos : String) (after : Array Edge) (g : Option (Nat × Bool)) (ty : TypeId) (m : Nat) (l : List (Nat × Operand)) : drcW G P ops n a own tc bs (⟨dst, .buildSlice ty m l.toArray, t, pos, after, g⟩ :: rest) q env kE = nbW q (putF dst .any env fun E => dstP n dst ∧ drcW G P ops n a own tc bs rest (q + 1) E kE) (drcS G P ops n a own tc bs dst (.buildSlice ty m l.toArray) g (mpO l) rest q env kE) bs := drc_st rfl ops rest dst t pos after g _ (by simp [Op.operands, mpO_eq])
theorem z_drc_build (ops rest : List Oper) (dst : Option Tmp) (t : TypeId) (pos : String) (after : Array Edge) (g : Option (Nat × Bool)) (ty : TypeId) (l : List (Nat × Operand)) : drcW G P ops n a own tc bs (⟨dst, .build ty l.toArray, t, pos, after, g⟩ :: rest) q env kE = nbW q (putF dst .any env fun E => dstP n dst ∧ drcW G P ops n a own tc bs rest (q + 1) E kE) (drcS G P ops n a own tc bs dst (.build ty l.toArray) g (mpO l) rest q env kE) bs := drc_st rfl ops rest dst t pos after g _ (by simp [Op.operands, mpO_eq])
theorem z_drc_makeFunc (ops rest : List Oper) (dst : Option Tmp) (t : TypeId) (pos : String) (after : Array Edge) (g : Option (Nat × Bool)) (f : FuncId) (l : List Operand) : drcW G P ops n a own tc bs (⟨dst, .makeFunc (.func f) [].toArray l.toArray, t, pos, after, g⟩ :: rest) q env kE = nbW q (putF dst .any env fun E => dstP n dst ∧ drcW G P ops n a own tc bs rest (q + 1) E kE) (drcS G P ops n a own tc bs dst (.makeFunc (.func f) [].toArray l.toArray) g l rest q env kE) bs := drc_st rfl ops rest dst t pos after g _ (by simp [Op.operands])
theorem z_drc_callb_app (ops rest : List Oper) (dst : Option Tmp) (t : TypeId) (pos : String) (after : Array Edge) (g : Option (Nat × Bool)) (l : Array Operand) (ts : Array TypeId) : drcW G P ops n a own tc bs (⟨dst, .call ⟨.builtin .append, l, ts⟩, t, pos, after, g⟩ :: rest) q env kE = nbW q (putF dst .any env fun E => dstP n dst ∧ drcW G P ops n a own tc bs rest (q + 1) E kE) False bs := drc_ns rfl ops rest dst t pos after g
theorem z_drc_makeSlice (ops rest : List Oper) (dst : Option Tmp) (t : TypeId) (pos : String) (after : Array Edge) (g : Option (Nat × Bool)) (ty : TypeId) (x y : Operand) : drcW G P ops n a own tc bs (⟨dst, .makeSlice ty x y, t, pos, after, g⟩ :: rest) q env kE = nbW q (putF dst .any env fun E => dstP n dst ∧ drcW G P ops n a own tc bs rest (q + 1) E kE) False bs := drc_ns rfl ops rest dst t pos after g
theorem z_drc_store (ops rest : List Oper) (dst : Option Tmp) (t : TypeId) (pos : String) (after : Array Edge) (g : Option (Nat × Bool)) (ty : TypeId) (x y : Operand) : drcW G P ops n a own tc bs (⟨dst, .store ty x y, t, pos, after, g⟩ :: rest) q env kE = nbW q (putF dst .any env fun E => dstP n dst ∧ drcW G P ops n a own tc bs rest (q + 1) E kE) False bs := drc_ns rfl ops rest dst t pos after g
theorem z_drc_callv (ops rest : List Oper) (dst : Option Tmp) (t : TypeId) (pos : String) (after : Array Edge) (g : Option (Nat × Bool)) (f : Operand) (r : List Operand) (ts : Array TypeId) : drcW G P ops n a own tc bs (⟨dst, .call ⟨.value f, r.toArray, ts⟩, t, pos, after, g⟩ :: rest) q env kE =
    nbW q (putF dst .any env fun E => dstP n dst ∧ drcW G P ops n a own tc bs rest (q + 1) E kE)
    (grdW ops g ⟨n, a, env, own⟩ (fun S => withE S fun _ _ E' _ => RDW (f :: r) E' fun e0 => hold (exD (fun d => ∀ (E'' : List (Nat × D)) (X : List (Nat × List D)), apW e0 E'' fun e => apO own X fun o => opW G P (.call ⟨.value f, r.toArray, ts⟩) ⟨n, a, e, o⟩ fun x T => x = d ∧ T = ⟨n, a, e, o⟩) (fun d => nmT tc d ∧ putW dst d S (drcK G P ops n a own tc bs rest (q + 1) kE)) (tgd _)) (tg _)) fun S => putW dst (.tup []) S (drcK G P ops n a own tc bs rest (q + 1) kE)) bs := by
  rw [drc_st rfl ops rest dst t pos after g (f :: r) (by simp [Op.operands, Call.operands])]
  simp only [drcS, hold_eq]
theorem z_nbW_nil (A B : Prop) : nbW q A B [] = B := _root_.id rfl
theorem z_nbW_cons (A B : Prop) (b : Nat) : nbW q A B (b :: bs) = if q = b then A else nbW q A B bs := by
  simp only [nbW]; split <;> simp_all
theorem z_dstP_none : dstP n none = True := _root_.id rfl
theorem z_dstP_some (s : Nat) : dstP n (some s) = (s < n) := _root_.id rfl
theorem z_nmTE_nil : nmTE tc [] = True := _root_.id rfl
theorem z_nmTE_cons (s : Nat) (d : D) : nmTE tc ((s, d) :: env) = (nmT tc d ∧ nmTE tc env) := _root_.id rfl
theorem z_nmT_nil (d : D) : nmT [] d = True := _root_.id rfl
theorem nmT_P {d : D} (h : isP d = true) : nmT tc d := by
  induction tc with
  | nil => trivial
  | cons x r ih => exact ⟨by cases d <;> first | rfl | (simp [isP] at h), ih⟩
theorem z_nmT_int (kk : IntKind) (m : Int) : nmT tc (.int kk m) = True := eq_true (nmT_P rfl)
theorem z_nmT_bool (b : Bool) : nmT tc (.bool b) = True := eq_true (nmT_P rfl)
theorem z_nmT_str (s : List UInt8) : nmT tc (.str s) = True := eq_true (nmT_P rfl)
theorem z_nmT_nils : nmT tc .nils = True := eq_true (nmT_P rfl)
theorem z_nmT_any : nmT tc .any = True := eq_true (nmT_P rfl)
theorem z_nmT_agg (cs : List D) : nmT tc (.agg cs) = True := eq_true (nmT_P rfl)
theorem z_nmT_tup (cs : List D) : nmT tc (.tup cs) = True := eq_true (nmT_P rfl)
theorem z_nmT_sl (x y : Nat) (cs : List D) : nmT tc (.sl x y cs) = True := eq_true (nmT_P rfl)
theorem z_nmT_slx (x y : Nat) (cs : List D) : nmT tc (.slx x y cs) = True := eq_true (nmT_P rfl)
theorem z_nmT_rop (x : Nat) (cs : List D) : nmT tc (.rop cs x) = True := eq_true (nmT_P rfl)
theorem z_nmT_fn (f : FuncId) (cs : List D) : nmT tc (.fn f cs) = True := eq_true (nmT_P rfl)
theorem z_nmT_ptr (j id off : Nat) : nmT (j :: tc) (.ptr id off) = (¬ id = j ∧ nmT tc (.ptr id off)) := by simp [nmT, mn]
theorem z_nmT_osl (j id x y : Nat) : nmT (j :: tc) (.osl id x y) = (¬ id = j ∧ nmT tc (.osl id x y)) := by simp [nmT, mn]
theorem z_nmT_osw (j id x y z : Nat) : nmT (j :: tc) (.osw id x y z) = (¬ id = j ∧ nmT tc (.osw id x y z)) := by simp [nmT, mn]
def nmTS (tc : List Nat) : List D → Prop
  | [] => True
  | d :: r => (∀ i ∈ tc, mnS i d = false) ∧ nmTS tc r
theorem nmT_oag_iff {cs : List D} : nmT tc (.oag cs) ↔ nmTS tc cs := by
  have h1 : nmTS tc cs ↔ ∀ i ∈ tc, cs.any (mnS i) = false := by
    induction cs with
    | nil => simp [nmTS]
    | cons d r ih => simp only [nmTS, ih, List.any_cons, Bool.or_eq_false_iff]; exact ⟨fun h i hi => ⟨h.1 i hi, h.2 i hi⟩, fun h => ⟨fun i hi => (h i hi).1, fun i hi => (h i hi).2⟩⟩
  rw [h1]
  clear h1
  induction tc with
  | nil => simp [nmT]
  | cons x r ih => simp only [nmT, ih, List.mem_cons, forall_eq_or_imp]; rfl
theorem z_nmT_oag (cs : List D) : nmT tc (.oag cs) = nmTS tc cs := propext nmT_oag_iff
theorem z_nmTS_nil : nmTS tc [] = True := _root_.id rfl
theorem z_nmTS_int (kk : IntKind) (m : Int) (r : List D) : nmTS tc (.int kk m :: r) = nmTS tc r := by simp [nmTS, mnS]
theorem z_nmTS_bool (b : Bool) (r : List D) : nmTS tc (.bool b :: r) = nmTS tc r := by simp [nmTS, mnS]
theorem z_nmTS_str (s : List UInt8) (r : List D) : nmTS tc (.str s :: r) = nmTS tc r := by simp [nmTS, mnS]
theorem z_nmTS_nils (r : List D) : nmTS tc (.nils :: r) = nmTS tc r := by simp [nmTS, mnS]
theorem z_nmTS_any (r : List D) : nmTS tc (.any :: r) = nmTS tc r := by simp [nmTS, mnS]
theorem z_nmTS_sl (x y : Nat) (cs r : List D) : nmTS tc (.sl x y cs :: r) = nmTS tc r := by simp [nmTS, mnS]
theorem z_nmTS_slx (x y : Nat) (cs r : List D) : nmTS tc (.slx x y cs :: r) = nmTS tc r := by simp [nmTS, mnS]
theorem z_noEs_nil : noEs [] env = True := _root_.id rfl
theorem z_noEs_cons (t : Nat) : noEs (t :: sl) env = (noE t env ∧ noEs sl env) := _root_.id rfl
theorem z_noE_nil (t : Nat) : noE t [] = True := _root_.id rfl
theorem z_noE_cons (t s : Nat) (d : D) : noE t ((s, d) :: env) = (¬ t = s ∧ noE t env) := _root_.id rfl
def memW (s : Nat) : List Nat → Prop
  | [] => False
  | b :: r => s = b ∨ memW s r
theorem memW_iff {s : Nat} : ∀ {sl : List Nat}, memW s sl ↔ s ∈ sl
  | [] => by simp [memW]
  | b :: r => by simp [memW, memW_iff (sl := r)]
theorem z_inE_nil : inE sl [] = True := _root_.id rfl
theorem z_inE_cons (s : Nat) (d : D) : inE sl ((s, d) :: env) = (memW s sl ∧ inE sl env) := by simp [inE, memW_iff]
theorem z_memW_cons (s b : Nat) : memW s (b :: sl) = if s = b then True else memW s sl := by
  simp only [memW]; split <;> simp_all
theorem z_ebW_nil (dst : Option Tmp) (d : D) (pq : Option Nat) : ebW dst d pq env [] = True := _root_.id rfl
theorem z_gdW_none (ops : List Oper) : gdW ops none env true = True := by simp [gdW]
end
/-- A region with a chain. tc: the blocks that the chain turns or makes; sl: the chain's slots; bs: the chain; E0, ownA: what is known to the others; EB: .. to the chain. -/
theorem rgn_c (m : Nat) (tc sl bs : List Nat) (E0 EB : List (Nat × D)) (ownA : List (Nat × List D)) {G : Glob} {P : Program} {l : List Oper} {n nx : Nat} {env : List (Nat × D)} {own : List (Nat × List D)} {k : St → Prop} {u : Tag (rgnT G P l ⟨n, nx, env, own⟩ k)} (h1 : (decide (m ≤ l.length) && drcB l m bs sl) = true)
    (h : wkE env E0 ∧ wkE env EB ∧ wkO own ownA ∧ nmTE tc E0 ∧ noEs sl E0 ∧ inE sl EB ∧
      drcW G P l n nx ownA tc bs (l.take m) 0 E0 fun E2 => hold (chnW G P l n tc sl ownA E2 bs nx own EB fun nx own EB' => apW EB' E2 fun e => opsW G P l (l.drop m) ⟨n, nx, e, own⟩ k) (tg _)) : hold (rgnT G P l ⟨n, nx, env, own⟩ k) u := by
  rw [Bool.and_eq_true, decide_eq_true_eq] at h1
  simp only [hold_eq] at h
  exact .mk (.inr (.inr (.inr (.inr ⟨m, tc, sl, bs, E0, EB, ownA, h1.1, h1.2, h⟩))))
/-- The chain's next operation. r: what it reads of others; d: its result; pq: the block that moves; then the state behind it. -/
theorem ch_mk (r : List (Nat × D)) (d : D) (pq : Option Nat) (nx' : Nat) (own' : List (Nat × List D)) (EB' : List (Nat × D)) {G : Glob} {P : Program} {ops : List Oper} {n nx b : Nat} {tc sl bs : List Nat} {ownA own : List (Nat × List D)} {E2 EB : List (Nat × D)} {K : Nat → List (Nat × List D) → List (Nat × D) → Prop} {u : Tag (chnW G P ops n tc sl ownA E2 (b :: bs) nx own EB K)}
    {dst : Option Tmp} {op : Op} {t : TypeId} {pos : String} {after : Array Edge} {g : Option (Nat × Bool)} (ho : ops[b]? = some ⟨dst, op, t, pos, after, g⟩) (hr : (r.all fun p => (rdsO op).contains p.1) = true) (hq : ∀ id, pq = some id → id ∈ tc) (heb : ebW dst d pq EB EB') (hg : gdW ops g E2 true)
    (hop : ∀ E' : List (Nat × D), apW r E' fun e0 => apW EB e0 fun e => opW G P op ⟨n, nx, e, own⟩ fun x T => x = d ∧ T = ⟨n, nx', pE pq e, own'⟩)
    (h : wkE E2 r ∧ inE sl EB' ∧ wkO own' ownA ∧ hold (chnW G P ops n tc sl ownA E2 bs nx' own' EB' K) (tg _)) : hold (chnW G P ops n tc sl ownA E2 (b :: bs) nx own EB K) u := by
  obtain ⟨h1, h2, h3, h4⟩ := h
  exact .mk ⟨_, r, d, pq, nx', own', EB', ho, h1, fun p hp => by simpa using List.all_eq_true.1 hr p hp, heb, h2, h3, hq, .inl ⟨hg, hop⟩, h4.get⟩
/-- .. where it is not carried out. -/
theorem ch_no (EB' : List (Nat × D)) {G : Glob} {P : Program} {ops : List Oper} {n nx b : Nat} {tc sl bs : List Nat} {ownA own : List (Nat × List D)} {E2 EB : List (Nat × D)} {K : Nat → List (Nat × List D) → List (Nat × D) → Prop} {u : Tag (chnW G P ops n tc sl ownA E2 (b :: bs) nx own EB K)}
    {dst : Option Tmp} {op : Op} {t : TypeId} {pos : String} {after : Array Edge} {g : Option (Nat × Bool)} (ho : ops[b]? = some ⟨dst, op, t, pos, after, g⟩) (heb : ebW dst (.tup []) none EB EB') (hg : gdW ops g E2 false)
    (h : inE sl EB' ∧ wkO own ownA ∧ hold (chnW G P ops n tc sl ownA E2 bs nx own EB' K) (tg _)) : hold (chnW G P ops n tc sl ownA E2 (b :: bs) nx own EB K) u := by
  obtain ⟨h2, h3, h4⟩ := h
  exact .mk ⟨_, [], .tup [], none, nx, own, EB', ho, trivial, by simp, heb, h2, h3, by simp, .inr ⟨hg, rfl, rfl, rfl⟩, h4.get⟩
theorem ch_end {G : Glob} {P : Program} {ops : List Oper} {n nx : Nat} {tc sl : List Nat} {ownA own : List (Nat × List D)} {E2 EB : List (Nat × D)} {K : Nat → List (Nat × List D) → List (Nat × D) → Prop} {u : Tag (chnW G P ops n tc sl ownA E2 [] nx own EB K)} (h : K nx own EB) : hold (chnW G P ops n tc sl ownA E2 [] nx own EB K) u := .mk h
end Go.Abs
