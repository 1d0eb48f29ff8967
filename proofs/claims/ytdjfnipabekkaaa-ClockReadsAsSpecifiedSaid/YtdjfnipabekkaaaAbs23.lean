/-
  AN ABSTRACT WALK, twenty-third text: contracts whose result lies in new memory.
-/
import Derived.Test.YtdjfnipabekkaaaAbs22
namespace Go.Abs
open Go.RowKit (Below)

def frC (cs : List D) : Prop := ∀ c ∈ cs, flS c = true
def frS (S : St) (d : D) : Prop :=
  match d with
  | .ptr id _ | .osl id _ _ | .osw id _ _ _ => lkoW id S.own frC
  | .oag _ | .ofn _ _ => False
  | d => flS d = true
def frSL (S : St) : List D → Prop
  | [] => True
  | d :: r => frS S d ∧ frSL S r
def frD (S : St) (d : D) : Prop :=
  match d with
  | .oag cs | .ofn _ cs => frSL S cs
  | .agg cs => frC cs
  | d => frS S d
def frL (S : St) : List D → Prop
  | [] => True
  | d :: r => frD S d ∧ frL S r

def FN (w0 : Bas) (w : World) (b : Nat) : Prop := (w0.w.heap.size ≤ b ∨ w0.lent b) ∧ b < w.heap.size
section
variable {w0 : Bas} {w : World} {φ : Loc} {S : St} {tmps : Array Value}

theorem own_FN (hs : SatC w0 φ S tmps w) {id b : Nat} {c : List D} (hid : lk id S.own = some c) (hb : (φ id).1 = some b) : FN w0 w b :=
  ⟨(hs.own id c hid).2 b hb, (hs.own id c hid).1.lt hb⟩
theorem flS_isP {c : D} (h : flS c = true) : isP c = true := by cases c <;> simp_all [flS, isP]
theorem flS_rep {F F' : Nat → Prop} {v : Value} {c : D} (h : Rep φ w F v c) (hf : flS c = true) : RepR w F' v c := (h.pure (flS_isP hf)).flS hf

theorem frS_ok (hs : SatC w0 φ S tmps w) {v : Value} {d : D} {k : D → Bool → Prop} (hr : Rep φ w (FSx φ S.own w) v d) (hf : frS S d) (h : coeS S d k) : ∃ d' b, k d' b ∧ RepR w (FN w0 w) v d' := by
  cases d with
  | ptr id off =>
    obtain ⟨c, hc, hp, hk⟩ := lkoW_ok h
    obtain ⟨c', hc', hfc⟩ := lkoW_ok hf
    obtain rfl : c = c' := Option.some.inj (hc.symm.trans hc')
    refine ⟨_, _, hk, ?_⟩
    cases hr with
    | ro hr => cases hr
    | ptr hb =>
      obtain ⟨arr, T, fz, h1, h2, h3, h4, h5, h6⟩ := own_cells hs hc hb
      have := RepR.rop (w := w) (F := FN w0 w) (b := _) (base := 0) (off := off) (cs := c) (fun j => arr.getD j undef) (own_FN hs hc hb)
        (fun j hj => ⟨by rw [Nat.zero_add]; exact h5 j hj, by obtain ⟨d, hd⟩ : ∃ d, c[j]? = some d := ⟨c[j], by simp [hj]⟩; exact (h6 j d hd).2⟩)
        (fun j d hd => flS_rep (h6 j d hd).1 (hfc d (List.mem_of_getElem? hd)))
      simpa using this
  | osl id sz n =>
    obtain ⟨c, hc, hp, hl, hk⟩ := lkoW_ok h
    obtain ⟨c', hc', hfc⟩ := lkoW_ok hf
    obtain rfl : c = c' := Option.some.inj (hc.symm.trans hc')
    refine ⟨_, _, hk, ?_⟩
    cases hr with
    | ro hr => cases hr
    | osl0 hb =>
      have : c = [] := List.eq_nil_of_length_eq_zero (by simpa using hl)
      subst this
      exact .sl0 (by simp [maxLen])
    | osl hb he hn hm =>
      obtain ⟨arr, T, fz, h1, h2, h3, h4, h5, h6⟩ := own_cells hs hc hb
      exact .sl (fun j => arr.getD j undef) rfl (own_FN hs hc hb) hn hm hl
        (fun j hj => ⟨by rw [Nat.zero_add]; exact h5 j (by omega), by obtain ⟨d, hd⟩ : ∃ d, c[j]? = some d := ⟨c[j]'(by omega), by simp⟩; exact (h6 j d hd).2⟩)
        (fun j d hd => flS_rep (h6 j d hd).1 (hfc d (List.mem_of_getElem? hd)))
  | osw id off sz n =>
    obtain ⟨c, hc, hp, hl, hk⟩ := lkoW_ok h
    obtain ⟨c', hc', hfc⟩ := lkoW_ok hf
    obtain rfl : c = c' := Option.some.inj (hc.symm.trans hc')
    refine ⟨_, _, hk, ?_⟩
    cases hr with
    | ro hr => cases hr
    | osw0 hc => rw [Nat.zero_mul, List.take_zero]; exact .sl0 hc
    | osw hb hn hm hsz =>
      obtain ⟨arr, T, fz, h1, h2, h3, h4, h5, h6⟩ := own_cells hs hc hb
      refine .sl (fun j => arr.getD (off + j) undef) rfl (own_FN hs hc hb) hn hm (by simp; omega)
        (fun j hj => ⟨h5 (off + j) (by omega), by obtain ⟨d, hd⟩ : ∃ d, c[off + j]? = some d := ⟨c[off + j]'(by omega), by simp⟩; exact (h6 _ d hd).2⟩)
        (fun j d hd => ?_)
      simp only [List.getElem?_take, List.getElem?_drop] at hd
      split at hd
      · exact flS_rep (h6 _ d hd).1 (hfc d (List.mem_of_getElem? hd))
      · cases hd
  | oag cs => exact h.elim
  | ofn f cs => exact h.elim
  | _ => first | exact ⟨_, _, h, flS_rep hr hf⟩ | (simp [frS, flS] at hf)

theorem frSL_ok (hs : SatC w0 φ S tmps w) : ∀ {ds : List D} {vs : List Value} {k : List D → Bool → Prop}, vs.length = ds.length →
    (∀ (i : Nat) (v : Value) (d : D), vs[i]? = some v → ds[i]? = some d → Rep φ w (FSx φ S.own w) v d) → frSL S ds → coeL S ds k → ∃ ds' b, k ds' b ∧ FArgs w (FN w0 w) vs ds'
  | [], vs, k, hl, hr, _, h => by
    have : vs = [] := List.eq_nil_of_length_eq_zero (by simpa using hl)
    subst this
    exact ⟨[], false, h, ⟨rfl, fun i v d hv => by simp at hv⟩⟩
  | d :: r, v :: vs, k, hl, hr, hf, h => by
    obtain ⟨d', b, h1, hd⟩ := frS_ok hs (hr 0 v d rfl rfl) hf.1 h
    obtain ⟨r', b', h2, ⟨hl', hr'⟩⟩ := frSL_ok hs (vs := vs) (by simpa using hl) (fun i v d hv hd => hr (i + 1) v d (by simpa using hv) (by simpa using hd)) hf.2 h1
    refine ⟨d' :: r', _, h2, ⟨by simp [hl'], fun i v2 d2 hv hd2 => ?_⟩⟩
    cases i with
    | zero => simp at hv hd2; subst hv; subst hd2; exact hd
    | succ i => exact hr' i v2 d2 (by simpa using hv) (by simpa using hd2)

theorem frD_ok (hs : SatC w0 φ S tmps w) {v : Value} {d : D} {k : D → Bool → Prop} (hr : Rep φ w (FSx φ S.own w) v d) (hf : frD S d) (h : coeW S d k) : ∃ d' b, k d' b ∧ RepR w (FN w0 w) v d' := by
  cases d with
  | oag cs =>
    cases hr with
    | ro hr => cases hr
    | @oag vs _ a b c =>
      obtain ⟨ds', bb, hk, ⟨hl, hr⟩⟩ := frSL_ok hs (vs := vs.toList) (by simpa using a) (fun i v d hv hd => c i v d (by simpa using hv) hd) hf h
      exact ⟨_, _, hk, .agg (by simpa using hl) b fun i v d hv hd => hr i v d (by simpa using hv) hd⟩
  | ofn f cs =>
    cases hr with
    | ro hr => cases hr
    | @ofn _ vs _ a c =>
      obtain ⟨ds', bb, hk, ⟨hl, hr⟩⟩ := frSL_ok hs (vs := vs.toList) (by simpa using a) (fun i v d hv hd => c i v d (by simpa using hv) hd) hf h
      exact ⟨_, _, hk, .fn (by simpa using hl) fun i v d hv hd => hr i v d (by simpa using hv) hd⟩
  | agg cs => exact ⟨_, _, h, (hr.pure rfl).flA hf⟩
  | _ => exact frS_ok hs hr hf h

theorem frL_ok (hs : SatC w0 φ S tmps w) : ∀ {ds : List D} {vs : List Value} {k : List D → Bool → Prop}, vs.length = ds.length →
    (∀ (i : Nat) (v : Value) (d : D), vs[i]? = some v → ds[i]? = some d → Rep φ w (FSx φ S.own w) v d) → frL S ds → coeLW S ds k → ∃ ds' b, k ds' b ∧ FArgs w (FN w0 w) vs ds'
  | [], vs, k, hl, hr, _, h => by
    have : vs = [] := List.eq_nil_of_length_eq_zero (by simpa using hl)
    subst this
    exact ⟨[], false, h, ⟨rfl, fun i v d hv => by simp at hv⟩⟩
  | d :: r, v :: vs, k, hl, hr, hf, h => by
    obtain ⟨d', b, h1, hd⟩ := frD_ok hs (hr 0 v d rfl rfl) hf.1 h
    obtain ⟨r', b', h2, ⟨hl', hr'⟩⟩ := frL_ok hs (vs := vs) (by simpa using hl) (fun i v d hv hd => hr (i + 1) v d (by simpa using hv) (by simpa using hd)) hf.2 h1
    refine ⟨d' :: r', _, h2, ⟨by simp [hl'], fun i v2 d2 hv hd2 => ?_⟩⟩
    cases i with
    | zero => simp at hv hd2; subst hv; subst hd2; exact hd
    | succ i => exact hr' i v2 d2 (by simpa using hv) (by simpa using hd2)
end

theorem FnF.mk {P : Program} {G : Glob} {f : FuncId} {fn : Func} {c : Code} {ds : List D} {d : D} {n : Nat} {rs : Array ResultVar} (hf : P.funcs[f]? = some fn) (hb : fn.body = some c) (hn : (fn.name == "runtime.NumGoroutine") = false) (hnt : fn.ntmps = n) (hrs : fn.results = rs)
    (h : bodyW G P n rs.toList c ds fun S rds => frL S rds ∧ coeLW S rds fun ds' _ => pack ds' = d) : FnF G P f ds d := by
  subst hnt hrs
  refine ⟨⟨fn, hf, by rw [hb]; rfl, hn⟩, fun b0 vs hG hL ha => (body_ok hf hb h hG ha).mono ?_⟩
  rintro e w' ⟨rvs, S, φ, rds, tmps, rfl, ⟨hfr, hk⟩, hs, hl, hr⟩
  obtain ⟨ds', b, rfl, ⟨hl', hr'⟩⟩ := frL_ok hs hl hr hfr hk
  refine ⟨_, rfl, ?_, hs.below.below hL⟩
  refine RepR.mono (F := FN b0 w') (w := w') ?_ (fun _ _ => rfl) fun b hb => ⟨hb.1.resolve_right (hL b), hb.2⟩
  match rvs, ds', hl' with
  | [], [], _ => exact .tup rfl fun i v d hv => by simp at hv
  | [v], [d], _ => exact hr' 0 v d rfl rfl
  | v :: u :: r, d :: e :: q, hl => exact .tup (by simpa using hl) fun i v d hv hd => hr' i v d (by simpa using hv) hd

/-! ### Laws by which this is computed -/
section
variable {n nx : Nat} {env : List (Nat × D)} {own : List (Nat × List D)} {S : St}
theorem z_frL_nil : frL S [] = True := _root_.id rfl
theorem z_frL_cons (d : D) (r : List D) : frL S (d :: r) = (frD S d ∧ frL S r) := _root_.id rfl
theorem z_fr_ptr (id off : Nat) : frD ⟨n, nx, env, own⟩ (.ptr id off) = lkoW id own frC := _root_.id rfl
theorem z_fr_osl (id sz m : Nat) : frD ⟨n, nx, env, own⟩ (.osl id sz m) = lkoW id own frC := _root_.id rfl
theorem z_fr_osw (id off sz m : Nat) : frD ⟨n, nx, env, own⟩ (.osw id off sz m) = lkoW id own frC := _root_.id rfl
theorem z_fr_int (kk : IntKind) (m : Int) : frD S (.int kk m) = True := eq_true rfl
theorem z_fr_bool (b : Bool) : frD S (.bool b) = True := eq_true rfl
theorem z_fr_str (s : List UInt8) : frD S (.str s) = True := eq_true rfl
theorem z_fr_nils : frD S .nils = True := eq_true rfl
theorem z_fr_any : frD S .any = True := eq_true rfl
theorem z_fr_agg (cs : List D) : frD S (.agg cs) = frC cs := _root_.id rfl
theorem z_fr_oag (cs : List D) : frD S (.oag cs) = frSL S cs := _root_.id rfl
theorem z_frSL_nil : frSL S [] = True := _root_.id rfl
theorem z_frSL_cons (d : D) (r : List D) : frSL S (d :: r) = (frS S d ∧ frSL S r) := _root_.id rfl
theorem z_frSL_bytes (bs : List UInt8) : frSL S (bs.map bD) = True := by
  refine eq_true ?_
  induction bs with
  | nil => trivial
  | cons b r ih => exact ⟨rfl, ih⟩
theorem z_frS_ptr (id off : Nat) : frS ⟨n, nx, env, own⟩ (.ptr id off) = lkoW id own frC := _root_.id rfl
theorem z_frS_osl (id sz m : Nat) : frS ⟨n, nx, env, own⟩ (.osl id sz m) = lkoW id own frC := _root_.id rfl
theorem z_frS_osw (id off sz m : Nat) : frS ⟨n, nx, env, own⟩ (.osw id off sz m) = lkoW id own frC := _root_.id rfl
theorem z_frS_int (kk : IntKind) (m : Int) : frS S (.int kk m) = True := eq_true rfl
theorem z_frS_bool (b : Bool) : frS S (.bool b) = True := eq_true rfl
theorem z_frS_str (s : List UInt8) : frS S (.str s) = True := eq_true rfl
theorem z_frS_nils : frS S .nils = True := eq_true rfl
theorem z_frS_any : frS S .any = True := eq_true rfl
theorem z_frC_nil : frC [] = True := by simp [frC]
theorem z_frC_int (kk : IntKind) (m : Int) (r : List D) : frC (.int kk m :: r) = frC r := by simp [frC, flS]
theorem z_frC_str (s : List UInt8) (r : List D) : frC (.str s :: r) = frC r := by simp [frC, flS]
theorem z_frC_bool (b : Bool) (r : List D) : frC (.bool b :: r) = frC r := by simp [frC, flS]
theorem z_frC_bytes (bs : List UInt8) : frC (bs.map bD) = True := eq_true (flS_bytes bs)
theorem z_frC_ints (kk : IntKind) (xs : List Int) : frC (xs.map (D.int kk)) = True := eq_true (flS_ints kk xs)
theorem z_frC_strs (xs : List (List UInt8)) : frC (xs.map D.str) = True := eq_true (flS_strs xs)
theorem z_frC_app (a b : List D) : frC (a ++ b) = (frC a ∧ frC b) := by
  simp only [frC, List.mem_append]
  exact propext ⟨fun h => ⟨fun c hc => h c (.inl hc), fun c hc => h c (.inr hc)⟩, fun h c hc => hc.elim (h.1 c) (h.2 c)⟩
end
#print axioms FnF.mk
end Go.Abs
