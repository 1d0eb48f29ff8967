/-
  AN ABSTRACT WALK, eighteenth text: a function's contract from its body.
-/
import Derived.Test.YtdjfnipabekkaaaAbs17
namespace Go.Abs
open Go.RowKit (Below)

/-! ### Results -/
def res1W (P : Program) (r : ResultVar) (S : St) (k : D → Prop) : Prop :=
  match r with
  | .tmp t => lkW t S.env k
  | .cell a t => lkW a S.env fun d => tyW P t fun ty => szW P t fun sz => opW.agTyW ty fun ag => loadW S d ag sz k
def resLW (P : Program) : List ResultVar → St → (List D → Prop) → Prop
  | [], _, k => k []
  | r :: rs, S, k => res1W P r S fun d => resLW P rs S fun ds => k (d :: ds)

section
variable {P : Program} {G : Glob} {w0 : Bas} {w : World} {φ : Loc} {S : St} {tmps : Array Value}

def resRun (tmps : Array Value) : ResultVar → Sem Value
  | .tmp t => pure (tmps.getD t undef)
  | .cell a t => do loadVar t (← asAddr (tmps.getD a undef))

theorem res1W_ok (hs : SatC w0 φ S tmps w) {r : ResultVar} {k : D → Prop} (h : res1W P r S k) : ∃ v d, (resRun tmps r).run P w = .ok v w ∧ k d ∧ Rep φ w (FSx φ S.own w) v d := by
  cases r with
  | tmp t =>
    obtain ⟨d, hd, hk⟩ := lkW_ok h
    obtain ⟨v, hv, hr⟩ := hs.env t d hd
    exact ⟨v, d, by simp [resRun, Array.getD_eq_getD_getElem?, hv], hk, hr⟩
  | cell x t =>
    obtain ⟨d, hd, h⟩ := lkW_ok h
    obtain ⟨v, hv, hr⟩ := hs.env x d hd
    simp only [tyW] at h
    obtain ⟨i, hi, h⟩ := szW_ok h
    unfold opW.agTyW at h
    split at h
    · rename_i ag hag
      obtain ⟨u, d', hrun, hk, hr'⟩ := loadW_ok (P := P) hs hr hag hi h
      refine ⟨u, d', ?_, hk, hr'⟩
      have e : tmps.getD x undef = v := by simp [Array.getD_eq_getD_getElem?, hv]
      have ha : ∃ ad, v = .pointer (some ad) := by
        cases d with
        | rop cs off => cases hr with | ro hr => cases hr; exact ⟨_, rfl⟩
        | ptr id off => cases hr with
          | ro hr => cases hr
          | ptr => exact ⟨_, rfl⟩
        | _ => exact h.elim
      obtain ⟨ad, rfl⟩ := ha
      unfold Instr.loadAt at hrun
      simp only [resRun, e, asAddr]
      simpa [Instr.sureAddr] using hrun
    · exact h.elim

theorem resLW_ok (hs : SatC w0 φ S tmps w) : ∀ {rs : List ResultVar} {k : List D → Prop}, resLW P rs S k → ∃ vs ds, (rs.mapM (resRun tmps)).run P w = .ok vs w ∧ k ds ∧ vs.length = ds.length ∧ vs.length = rs.length ∧
    ∀ (i : Nat) (v : Value) (d : D), vs[i]? = some v → ds[i]? = some d → Rep φ w (FSx φ S.own w) v d
  | [], k, h => ⟨[], [], by simp, h, rfl, rfl, fun i v d hv => by simp at hv⟩
  | r :: rs, k, h => by
    obtain ⟨v, d, hrun, h, hr⟩ := res1W_ok hs h
    obtain ⟨vs, ds, hrun', hk, hl, hl2, hr'⟩ := resLW_ok hs h
    refine ⟨v :: vs, d :: ds, by simp [List.mapM_cons, hrun, hrun'], hk, by simp [hl], by simp [hl2], fun i u e hu he => ?_⟩
    cases i with
    | zero => simp at hu he; subst hu; subst he; exact hr
    | succ i => exact hr' i u e (by simpa using hu) (by simpa using he)

def retV (vs : List Value) : Value := match vs with | [v] => v | vs => .tuple vs.toArray
theorem run_results {fn : Func} {vs : List Value} (h : (fn.results.toList.mapM (resRun tmps)).run P w = .ok vs w) :
    (results fn tmps).run P w = .ok (retV vs) w := by
  have e : results fn tmps = (do let vs ← fn.results.mapM (resRun tmps); pure (if h : vs.size = 1 then vs[0] else .tuple vs)) := by
    unfold results
    congr 1
  have e2 : fn.results.mapM (resRun tmps) = (fn.results.toList.mapM (resRun tmps) >>= fun l => pure l.toArray) := by
    rw [Array.mapM_eq_mapM_toList]; simp
  rw [e, e2]
  simp only [Sem.run_bind, h, Result.andThen_ok, Sem.run_pure]
  congr 1
  match vs with
  | [] => simp [retV]
  | [v] => simp [retV]
  | v :: u :: r => simp [retV]
end

/-! ### The whole body -/
def pack (ds : List D) : D := match ds with | [d] => d | ds => .tup ds
def endK (k : St → Prop) : Ex → St → Prop
  | .nrm, S => k S
  | .rt, S => k S
  | .ext _, _ => False
def wfL : List D → Prop → Prop
  | [], A => A
  | d :: r, A => wf3 d → wfL r A

/-- The body, from arguments that read as 'ds' to what is returned. -/
def bodyW (G : Glob) (P : Program) (n : Nat) (rs : List ResultVar) (c : Code) (ds : List D) (k : St → List D → Prop) : Prop :=
  ds.length ≤ n ∧ wfL ds (codeW G P c ⟨n, 0, envF 0 ds, []⟩ (endK fun S => resLW P rs S fun ds => k S ds))

theorem wfL_ok {w : World} {F : Nat → Prop} {A : Prop} : ∀ {ds : List D} {vs : List Value}, FArgs w F vs ds → wfL ds A → A
  | [], _, _, h => h
  | d :: r, [], ⟨h, _⟩, _ => by simp at h
  | d :: r, v :: vs, ⟨hl, hr⟩, h => wfL_ok (ds := r) (vs := vs) ⟨by simpa using hl, fun i v d hv hd => hr (i + 1) v d (by simpa using hv) (by simpa using hd)⟩ (h (wf3_of (hr 0 v d rfl rfl)))

section
variable {P : Program} {G : Glob}

theorem body_ok {f : FuncId} {fn : Func} {c : Code} {ds : List D} {k : St → List D → Prop} (hf : P.funcs[f]? = some fn) (hb : fn.body = some c) (h : bodyW G P fn.ntmps fn.results.toList c ds k)
    {b0 : Bas} (hG : GOk G b0) {vs : List Value} (ha : FArgs b0.w (fun b => b0.base b ∧ b < b0.w.heap.size) vs ds) :
    Calls P f vs.toArray b0.w fun e w' => ∃ rvs S φ rds tmps, e = .returned (retV rvs) ∧ k S rds ∧ SatC b0 φ S tmps w' ∧ rvs.length = rds.length ∧
      ∀ (i : Nat) (v : Value) (d : D), rvs[i]? = some v → rds[i]? = some d → Rep φ w' (FSx φ S.own w') v d := by
  refine calls_of_wp hf hb ?_
  have h2 := wfL_ok ha h.2
  have hsz : vs.length ≤ fn.ntmps := by rw [ha.1]; exact h.1
  refine (wpIn_fw (n := 0)).1 (codeW_ok hG c (φ := ⟨b0.loc, b0.base⟩) (w0 := b0) ?_ h2 ?_)
  · refine ⟨Bel.refl b0, by simp; omega, fun id c hc => by simp [lk] at hc, fun id id' c c' b hc => by simp [lk] at hc, fun s d hd => ?_, rfl, fun _ _ => rfl⟩
    obtain ⟨j, rfl, hj⟩ := envF_ok hd
    have hjl : j < vs.length := by rw [ha.1]; exact (List.getElem?_eq_some_iff.1 hj).1
    refine ⟨vs[j], ?_, ?_⟩
    · rw [Nat.zero_add, Array.getElem?_append, if_pos (by simpa using hjl)]
      simp [hjl]
    · refine .ro ((ha.2 j vs[j] d (by simp [hjl]) hj).mono (fun _ _ => rfl) fun b hb => ⟨hb.2, fun id c hc => by simp [lk] at hc, hb.1⟩)
  · have fin : ∀ {S : St} {a : Act} {w : World} {φ : Loc}, resLW P fn.results.toList S (fun ds => k S ds) → SatC b0 φ S a.tmps w → ∃ v, (results fn a.tmps).run P w = .ok v w ∧
        ∃ rvs S φ rds tmps, Ending.returned v = .returned (retV rvs) ∧ k S rds ∧ SatC b0 φ S tmps w ∧ rvs.length = rds.length ∧
          ∀ (i : Nat) (v : Value) (d : D), rvs[i]? = some v → rds[i]? = some d → Rep φ w (FSx φ S.own w) v d := by
      intro S a w φ h hs
      obtain ⟨rvs, rds, hrun, hk, hl, _, hr⟩ := resLW_ok hs h
      exact ⟨_, run_results hrun, rvs, S, φ, rds, a.tmps, rfl, hk, hs, hl, hr⟩
    refine ⟨fun h1 hs hn hd => ?_, fun h1 hs hn hd => h1.elim, fun h1 hs hn hd => ?_⟩
    · exact ⟨hd, fin h1 hs⟩
    · exact ⟨hd, fin h1 hs⟩

theorem Fn.mk {f : FuncId} {fn : Func} {c : Code} {ds : List D} {d : D} {n : Nat} {rs : Array ResultVar} (hf : P.funcs[f]? = some fn) (hb : fn.body = some c) (hn : (fn.name == "runtime.NumGoroutine") = false) (hnt : fn.ntmps = n) (hrs : fn.results = rs)
    (h : bodyW G P n rs.toList c ds fun S rds => coeLW S rds fun ds' _ => pack ds' = d) : Fn G P f ds d := by
  subst hnt hrs
  refine ⟨⟨fn, hf, by rw [hb]; rfl, hn⟩, fun b0 vs hG hL ha => (body_ok hf hb h hG ha).mono ?_⟩
  rintro e w' ⟨rvs, S, φ, rds, tmps, rfl, hk, hs, hl, hr⟩
  obtain ⟨ds', b, rfl, ⟨hl', hr'⟩, _⟩ := coeLW_ok hs hl hr hk
  refine ⟨_, rfl, ?_, hs.below.below hL⟩
  have hFL : FL φ w' = fun b => b0.base b ∧ b < w'.heap.size := by funext b; unfold FL; rw [hs.base]
  rw [← hFL]
  match rvs, ds', hl' with
  | [], [], _ => exact .tup rfl fun i v d hv => by simp at hv
  | [v], [d], _ => exact hr' 0 v d rfl rfl
  | v :: u :: r, d :: e :: q, hl => exact .tup (by simpa using hl) fun i v d hv hd => hr' i v d (by simpa using hv) hd

/-- What a function gives away: a slice of its own. -/
def ownW (S : St) (d : D) (k : Nat → Nat → List D → Prop) : Prop :=
  match d with
  | .osl id sz n => lkoW id S.own fun c => allP c ∧ c.length = n * sz ∧ k sz n c
  | _ => False
def own1W (sz : Nat) (S : St) (ds : List D) (k : Nat → Nat → List D → Prop) : Prop :=
  match ds with
  | [.nils] => k sz 0 []
  | [d] => ownW S d k
  | _ => False

theorem FnS.mk {f : FuncId} {fn : Func} {c : Code} {ds : List D} {sz n : Nat} {cs : List D} {nt : Nat} {rs : Array ResultVar} (hf : P.funcs[f]? = some fn) (hb : fn.body = some c) (hn : (fn.name == "runtime.NumGoroutine") = false) (hnt : fn.ntmps = nt) (hrs : fn.results = rs)
    (h : bodyW G P nt rs.toList c ds fun S rds => own1W sz S rds fun sz' n' cs' => sz' = sz ∧ n' = n ∧ cs' = cs) : FnS G P f ds sz n cs := by
  subst hnt hrs
  refine ⟨⟨fn, hf, by rw [hb]; rfl, hn⟩, fun b0 vs hG hL ha => (body_ok hf hb h hG ha).mono ?_⟩
  rintro e w' ⟨rvs, S, φ, rds, tmps, rfl, hk, hs, hl, hr⟩
  unfold own1W at hk
  split at hk
  · obtain ⟨_, rfl, rfl⟩ := hk
    match rvs, hl with
    | [v], _ =>
      have : v = .slice none 0 0 := by cases hr 0 v _ rfl rfl with | ro h => cases h; rfl
      subst this
      exact ⟨_, rfl, ⟨by simp, .inl ⟨none, rfl, rfl⟩⟩, hs.below.below hL⟩
  · rename_i d _
    match rvs, hl with
    | [v], _ =>
      refine ⟨_, rfl, ?_, hs.below.below hL⟩
      have hv := hr 0 v d rfl rfl
      unfold ownW at hk
      split at hk
      · rename_i id sz' n' _ _
        obtain ⟨c, hc, hp, hl, e1, e2, e3⟩ := lkoW_ok hk
        subst e1 e2 e3
        refine ⟨hl, ?_⟩
        cases hv with
        | ro hv => cases hv
        | osl0 hb => exact .inl ⟨_, rfl, rfl⟩
        | @osl _ _ _ c' b hb he hn hm =>
          obtain ⟨arr, T, fz, h1, h2, h3, h4, h5, h6⟩ := own_cells hs hc hb
          refine .inr ⟨b, c', arr, T, fz, rfl, ((hs.own id c hc).2 b hb).resolve_right (hL b), h1, by rw [h2, he], hn, hm, h4, fun i v d hv hd => ?_⟩
          obtain ⟨g1, g2⟩ := h6 i d hd
          have e : arr.getD i undef = v := by simp [Array.getD_eq_getD_getElem?, hv]
          rw [e] at g1 g2
          refine ⟨(g1.pure (hp d (List.mem_of_getElem? hd))).mono (fun _ _ => rfl) fun k hk => ⟨⟨by rw [← hs.base]; exact hk.3, hk.1⟩, fun e => hk.2 id c hc (by rw [hb, e])⟩, g2⟩
      · exact hk.elim
  · exact hk.elim
end

#print axioms FnS.mk
#print axioms Fn.mk
end Go.Abs
