/-
  AN ABSTRACT WALK: a constant's bytes (a row of constants, converted to its own type: the model marks the row).
-/
import Derived.Test.YtokenlcigigamaaDoorAbs28
import Derived.Lib.SlBytesConst
namespace Go.Abs
open Go.RowKit (Below)

section
variable {P : Program} {G : Glob} {w0 : Bas} {w : World} {S : St} {φ : Loc}

/-- The row of a constant's bytes: own memory. -/
def litW (G : Glob) (P : Program) (t : TypeId) (n : Nat) (ps : List (Nat × Operand)) (S : St) (k : D → St → Prop) : Prop :=
  tyW P t fun ty => slTyW ty fun e => tyW P e fun te => te = .int .u8 ∧ szW P e fun sz => n * sz ≤ 16777216 ∧ n ≤ maxLen ∧ zeroW P e fun z => z.length = sz ∧ repL n z fun c0 => bldW G S (fun i k => k (i * sz) sz) ps c0 fun c => allP c ∧ newW S c fun S' => k (.osl S.nx sz n) S'

theorem lit_ok (hG : GOk G w0) {a : Act} (hs : SatC w0 φ S a.tmps w) {T : TypeId} {n : Nat} {parts : Array (Nat × Operand)} {k : D → St → Prop} (h : litW G P T n parts.toList S k) :
    ∃ v w1 w2, (Instr.buildSlice T n (parts.map fun (i, x) => (i, a.eval x))).run P w = .ok v w1 ∧ (convert T T v).run P w1 = .ok v w2 ∧ Left w0 S a.tmps k v w2 := by
  unfold litW tyW at h
  obtain ⟨e, ht, h⟩ : ∃ e, tyOf P T = .slice e ∧ (tyOf P e = .int .u8 ∧ szW P e fun sz => n * sz ≤ 16777216 ∧ n ≤ maxLen ∧ zeroW P e fun z => z.length = sz ∧ repW n z fun c0 => bldW G S (fun i k => k (i * sz) sz) parts.toList c0 fun c => allP c ∧ newW S c fun S' => k (.osl S.nx sz n) S') := by
    dsimp only [slTyW] at h
    split at h
    · rename_i e he; exact ⟨e, he, h⟩
    · exact h.elim
  obtain ⟨hu8, h⟩ := h
  obtain ⟨ie, hie, hsz, hm, h⟩ := szW_ok h
  obtain ⟨i', z, hi', hz, h1, hzl, h⟩ := zeroW_ok h
  rw [hie] at hi'; cases hi'
  have hzl : z.cells.size = ie.size := by simpa using hzl
  have hrange : ∀ (zz : Array Value), ((n * ie.size = 0 → zz = #[]) ∧ (n * ie.size ≠ 0 → zz = z.cells)) → ((Array.range (n * ie.size)).map fun i => zz[i % zz.size]!) = ((Array.range (n * z.cells.size)).map fun i => z.cells[i % z.cells.size]!) := by
    intro zz hzz
    by_cases h0 : n * ie.size = 0
    · rw [hzl, h0]; simp
    · rw [hzz.2 h0, hzl]
  obtain ⟨arr', c', hf, ⟨hp, hk⟩, hsz1, hsz2, hr⟩ := bldW_ok (arr := (Array.range (n * z.cells.size)).map fun i => z.cells[i % z.cells.size]!) (place := fun j => some (j * ie.size, ie.size)) hG hs (fun i k h => ⟨_, _, rfl, h⟩)
    (by simp) (fun j v d hv hd => by
      obtain ⟨q, hq, rfl⟩ := zeros_get hv hd
      have := Array.all_eq_true.1 h1
      obtain ⟨hj, rfl⟩ := Array.getElem?_eq_some_iff.1 hq
      exact ⟨.ro (dS_ok w _ _), this q hj⟩) h
  have hlen : arr'.size = n * ie.size := by rw [hsz2]; simp [hzl]
  obtain ⟨φ', S', hk, hs', hn, hlo⟩ := newW_ok hs (arr := arr') (T := e) (fz := (arr'.size, arr'.size + 1)) (fun o ho => by simp only; omega) (by omega) (fun j v d hv hd =>
    have := (hr j v d hv hd).1.pure (hp d (List.mem_of_getElem? hd))
    ⟨.ro this, (hr j v d hv hd).2, mn_of_repR this _⟩) hk
  have he8 := tyOf_int hu8
  refine ⟨.slice (some ⟨w.heap.size, 0, none⟩) n n, w.alloc (.cells arr' e), w.alloc (.cells arr' e (arr'.size, arr'.size + 1)), ?_, Lib.run_convert_bytes_const w T e arr' n n (tyOf_slice ht) he8, φ', _, S', hk, hs', ?_, hn⟩
  · have e1 : (parts.map fun (i, x) => (i, a.eval x)).toList = parts.toList.map fun p => (p.1, a.eval p.2) := by simp
    have hns : ¬ (n * ie.size > 2 ^ 24) := by omega
    simp only [Instr.buildSlice, Sem.run_bind, run_underlying (tyOf_slice ht), Result.andThen_ok, sizeOf, typeInfo, run_program, hie, Sem.run_pure, if_neg hns, e1]
    by_cases h0 : n * ie.size = 0
    · have hr0 := hrange #[] ⟨fun _ => rfl, fun h => absurd h0 h⟩
      rw [if_pos h0]
      simp only [pure_bind]
      rw [hr0, hf]
      simp [newRow]
    · have hr0 := hrange z.cells ⟨fun h => absurd h h0, fun _ => rfl⟩
      rw [if_neg h0]
      simp only [Sem.run_bind, zeroValue, typeInfo, run_program, Result.andThen_ok, hie, hz, Sem.run_pure]
      rw [hr0, hf]
      simp [newRow]
  · exact Rep.osl (by rw [hlo]) (by rw [hlo]; exact hlen.symm) (Nat.le_refl _) hm

/-- Code whose meaning is bounded by a text. -/
def Snd (G : Glob) (P : Program) (c : Code) (W : St → (Ex → St → Prop) → Prop) : Prop :=
  ∀ {w0 : Bas} {S : St} {a : Act} {w : World} {φ : Loc} {K : Ex → St → Prop} {Q : Exit → Act → World → Prop}, GOk G w0 → SatC w0 φ S a.tmps w → W S K → KQ w0 S.n a.defers K Q → c.wpIn (fw none) 0 P Q a w

theorem Snd.of (c : Code) : Snd G P c fun S K => codeW G P c S K := fun hG hs h q => codeW_ok hG c hs h q

theorem Snd.seq {x y : Code} {X Y : St → (Ex → St → Prop) → Prop} (hx : Snd G P x X) (hy : Snd G P y Y) : Snd G P (.seq x y) fun S K => X S (seqK (fun S => Y S K) K) := by
  intro w0 S a w φ K Q hG hs h q
  refine wpIn_seq (hx hG hs h ⟨fun {S' a' w' φ'} h1 hs' hn hd => ?_, fun h1 hs' hn hd => q.ext h1 hs' hn hd, fun h1 hs' hn hd => q.rt h1 hs' hn hd⟩)
  exact hy hG hs' h1 (by rw [hn, hd]; exact q)

theorem Snd.lit {id i j : Nat} {ops rest : List Oper} {t t1 t2 : TypeId} {n : Nat} {ps : List (Nat × Operand)} {p1 p2 : String} {f1 f2 : Array Edge}
    (he : ops = ⟨some i, .buildSlice t n ps.toArray, t1, p1, f1, none⟩ :: ⟨some j, .convert t t (.tmp i), t2, p2, f2, none⟩ :: rest) :
    Snd G P (.region id ops.toArray false) fun S K => litW G P t n ps S fun d S => putW (some i) d S fun S => putW (some j) d S fun S => opsW G P ops rest S (K .nrm) := by
  subst he
  intro w0 S a w φ K Q hG hs h q
  refine wpIn_region_list ?_
  simp only [List.toList_toArray]
  obtain ⟨v, w1, w2, r1, r2, φ', d, S1, h1, hs1, hr1, n1⟩ := lit_ok hG hs (parts := ps.toArray) h
  obtain ⟨hi, h2⟩ := h1
  have hs2 := hs1.put hi hr1
  obtain ⟨hj, h3⟩ := h2
  have hs3 := hs2.put hj (d := d) (v := v) hr1
  have hi' : i < a.tmps.size := by rw [hs1.size]; exact hi
  unfold wpListIn
  rw [if_pos (by rfl)]
  refine wp_val (fun c h => by cases h) (v := v) (w' := w1) (by simp only [execOp, Sem.run_bind]; erw [r1]; rfl) ?_
  unfold wpListIn
  rw [if_pos (by rfl)]
  have ev : (a.put (some i) v).eval (.tmp i) = v := by
    simp [Act.put, Act.eval, hi']
  refine wp_val (fun c h => by cases h) (v := v) (w' := w2) (by simp only [execOp, Sem.run_bind, ev]; erw [r2]; rfl) ?_
  exact opsW_ok hG (a := (a.put (some i) v).put (some j) v) hs3 h3 fun S' a' w' φ' hk hs' hnn hd => q.nrm hk hs' (by rw [hnn]; exact n1) (by rw [hd, put_defers, put_defers])

/-- The body by a text for its code. -/
def bodyS (P : Program) (n : Nat) (rs : List ResultVar) (W : St → (Ex → St → Prop) → Prop) (ds : List D) (k : St → List D → Prop) : Prop :=
  ds.length ≤ n ∧ wfL ds (W ⟨n, 0, envF 0 ds, []⟩ (endK fun S => resLW P rs S fun ds => k S ds))

theorem bodyS_ok {W : St → (Ex → St → Prop) → Prop} {f : FuncId} {fn : Func} {c : Code} {ds : List D} {k : St → List D → Prop} (hf : P.funcs[f]? = some fn) (hb : fn.body = some c) (hW : Snd G P c W) (h : bodyS P fn.ntmps fn.results.toList W ds k)
    {b0 : Bas} (hG : GOk G b0) {vs : List Value} (ha : FArgs b0.w (fun b => b0.base b ∧ b < b0.w.heap.size) vs ds) :
    Calls P f vs.toArray b0.w fun e w' => ∃ rvs S φ rds tmps, e = .returned (retV rvs) ∧ k S rds ∧ SatC b0 φ S tmps w' ∧ rvs.length = rds.length ∧
      ∀ (i : Nat) (v : Value) (d : D), rvs[i]? = some v → rds[i]? = some d → Rep φ w' (FSx φ S.own w') v d := by
  refine calls_of_wp hf hb ?_
  have h2 := wfL_ok ha h.2
  have hsz : vs.length ≤ fn.ntmps := by rw [ha.1]; exact h.1
  refine (wpIn_fw (n := 0)).1 (hW hG (φ := ⟨b0.loc, b0.base⟩) (w0 := b0) ?_ h2 ?_)
  · refine ⟨Bel.refl b0, by simp; omega, fun id c hc => by simp [lk] at hc, fun id id' c c' b hc => by simp [lk] at hc, fun s d hd => ?_, rfl, fun _ _ => rfl⟩
    obtain ⟨j, rfl, hj⟩ := envF_ok hd
    have hjl : j < vs.length := by rw [ha.1]; exact (List.getElem?_eq_some_iff.1 hj).1
    refine ⟨vs[j], ?_, ?_⟩
    · rw [Nat.zero_add, Array.getElem?_append, if_pos (by simpa using hjl)]
      simp [hjl]
    · refine .ro ((ha.2 j vs[j] d (by simp [hjl]) hj).mono (fun _ _ => rfl) fun b hb => ⟨hb.2, fun id c hc => by simp [lk] at hc, hb.1⟩)
  · have fin : ∀ {S : St} {a : Act} {w : World} {φ : Loc}, resLW P fn.results.toList S (fun ds => k S ds) → SatC b0 φ S a.tmps w → ∃ v, (results fn a.tmps).run P w = .ok v w ∧
        ∃ rvs S φ rds tmps, Ending.returned v = .returned (retV rvs) ∧ k S rds ∧ SatC b0 φ S tmps w ∧ rvs.length = rds.length ∧
          ∀ (i : Nat) (v : Value) (d : D), rvs[i]? = some v → rds[i]? = some d → Rep φ w (FSx φ S.own w) v d := by
      intro S a w φ h hs
      obtain ⟨rvs, rds, hrun, hk, hl, _, hr⟩ := resLW_ok hs h
      exact ⟨_, run_results hrun, rvs, S, φ, rds, a.tmps, rfl, hk, hs, hl, hr⟩
    refine ⟨fun h1 hs hn hd => ?_, fun h1 hs hn hd => h1.elim, fun h1 hs hn hd => ?_⟩
    · exact ⟨hd, fin h1 hs⟩
    · exact ⟨hd, fin h1 hs⟩

theorem Fn.mkS {W : St → (Ex → St → Prop) → Prop} {f : FuncId} {fn : Func} {c : Code} {ds : List D} {d : D} {n : Nat} {rs : Array ResultVar} (hf : P.funcs[f]? = some fn) (hb : fn.body = some c) (hn : (fn.name == "runtime.NumGoroutine") = false) (hnt : fn.ntmps = n) (hrs : fn.results = rs) (hW : Snd G P c W)
    (h : bodyS P n rs.toList W ds fun S rds => coeLW S rds fun ds' _ => pack ds' = d) : Fn G P f ds d := by
  subst hnt hrs
  refine ⟨⟨fn, hf, by rw [hb]; rfl, hn⟩, fun b0 vs hG hL ha => (bodyS_ok hf hb hW h hG ha).mono ?_⟩
  rintro e w' ⟨rvs, S, φ, rds, tmps, rfl, hk, hs, hl, hr⟩
  obtain ⟨ds', b, rfl, ⟨hl', hr'⟩, _⟩ := coeLW_ok hs hl hr hk
  refine ⟨_, rfl, ?_, hs.below.below hL⟩
  have hFL : FL φ w' = fun b => b0.base b ∧ b < w'.heap.size := by funext b; unfold FL; rw [hs.base]
  rw [← hFL]
  match rvs, ds', hl' with
  | [], [], _ => exact .tup rfl fun i v d hv => by simp at hv
  | [v], [d], _ => exact hr' 0 v d rfl rfl
  | v :: u :: r, d :: e :: q, hl => exact .tup (by simpa using hl) fun i v d hv hd => hr' i v d (by simpa using hv) hd
theorem s_body (W : St → (Ex → St → Prop) → Prop) (n : Nat) (rs : List ResultVar) (ds : List D) (k : St → List D → Prop) : bodyS P n rs W ds k = (ds.length ≤ n ∧ wfL ds (W ⟨n, 0, envF 0 ds, []⟩ (endK fun S => resLW P rs S fun ds => k S ds))) := _root_.id rfl
theorem s_lit (t : TypeId) (m : Nat) (l : List (Nat × Operand)) (k : D → St → Prop) : litW G P t m l S k = tyW P t fun ty => slTyW ty fun e => tyW P e fun te => te = .int .u8 ∧ szW P e fun sz => m * sz ≤ 16777216 ∧ m ≤ maxLen ∧ zeroW P e fun z => z.length = sz ∧ repL m z fun c0 => bldW G S (fun i k => k (i * sz) sz) l c0 fun c => allP c ∧ newW S c fun S' => k (.osl S.nx sz m) S' := _root_.id rfl
end
end Go.Abs
