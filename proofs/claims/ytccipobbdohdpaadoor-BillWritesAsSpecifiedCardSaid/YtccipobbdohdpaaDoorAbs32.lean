/-
  AN ABSTRACT WALK: contracts from bodies that hold a range over a function, where results may stand in cells.
-/
import Derived.Test.YtccipobbdohdpaaDoorAbs28
namespace Go.Abs
open Go.RowKit (Below)
section
variable {G : Glob} {P : Program}
theorem bodyRC_ok {f : FuncId} {fn : Func} {c : Code} {ds : List D} {k : St → List D → Prop} (hf : P.funcs[f]? = some fn) (hb : fn.body = some c) (h : bodyR G P fn.ntmps fn.results.toList c ds k)
    {b0 : Bas} (hG : GOk G b0) (hL : ∀ b, ¬ b0.lent b) {vs : List Value} (ha : FArgs b0.w (fun b => b0.base b ∧ b < b0.w.heap.size) vs ds) :
    Calls P f vs.toArray b0.w fun e w' => ∃ rvs S φ rds tmps w0 w, e = .returned (retV rvs) ∧ k S rds ∧ Wc b0 w0 ∧ SatC w0 φ S tmps w ∧ rvs.length = rds.length ∧ w'.heap.size = w.heap.size ∧ (∀ b, w0.base b → w'.heap[b]? = w.heap[b]?) ∧ Below b0.w.heap.size b0.w w' ∧
      ∀ (i : Nat) (v : Value) (d : D), rvs[i]? = some v → rds[i]? = some d → Rep φ w (FSx φ S.own w) v d := by
  have h2 := wfL_ok ha h.2
  have hsz : vs.length ≤ fn.ntmps := by rw [ha.1]; exact h.1
  refine callsIn_fw.1 (callsIn_of_wp_marks (F := fw none) (n := 0) hf hb trivial ?_)
  have wc0 : Wc b0 b0 := ⟨rfl, Below.refl _ _, fun b _ hb => hb, fun b hb => absurd hb (hL b)⟩
  refine codeR_ok hG c (φ := ⟨b0.loc, b0.base⟩) (w0 := b0) wc0 trivial ?_ h2 ?_
  · refine ⟨Bel.refl b0, by simp; omega, fun id c hc => by simp [lk] at hc, fun id id' c c' b hc => by simp [lk] at hc, fun s d hd => ?_, rfl, fun _ _ => rfl⟩
    obtain ⟨j, rfl, hj⟩ := envF_ok hd
    have hjl : j < vs.length := by rw [ha.1]; exact (List.getElem?_eq_some_iff.1 hj).1
    refine ⟨vs[j], ?_, ?_⟩
    · rw [Nat.zero_add, Array.getElem?_append, if_pos (by simpa using hjl)]
      simp [hjl]
    · exact .ro ((ha.2 j vs[j] d (by simp [hjl]) hj).mono (fun _ _ => rfl) fun b hb => ⟨hb.2, fun id c hc => by simp [lk] at hc, hb.1⟩)
  · have fin : ∀ {w0 : Bas} {S : St} {a : Act} {w : World} {φ : Loc}, Wc b0 w0 → dfOk b0.w.heap.size w0 a.defers → resLW P fn.results.toList S (fun ds => k S ds) → SatC w0 φ S a.tmps w → LeavesInM (fw none) 0 P fn a.tmps (fun e w' => ∃ rvs S φ rds tmps w0 w, e = .returned (retV rvs) ∧ k S rds ∧ Wc b0 w0 ∧ SatC w0 φ S tmps w ∧ rvs.length = rds.length ∧ w'.heap.size = w.heap.size ∧ (∀ b, w0.base b → w'.heap[b]? = w.heap[b]?) ∧ Below b0.w.heap.size b0.w w' ∧
      ∀ (i : Nat) (v : Value) (d : D), rvs[i]? = some v → rds[i]? = some d → Rep φ w (FSx φ S.own w) v d) a.defers .returning w := by
      intro w0 S a w φ hw hd h hs
      refine leaves w hd rfl (fun d hdd D e => ?_) (fun _ _ => rfl) (fun _ _ => rfl) rfl rfl rfl fun w' h1 h2 h2' h3 h4 h5 => ?_
      · have : ∀ {ds : List Deferred}, dfOk b0.w.heap.size w0 ds → d ∈ ds → w.heap[D]? = some (.deferred (some [])) := by
          intro ds
          induction ds with
          | nil => intro _ h; simp at h
          | cons x r ih =>
            rintro ⟨⟨D', q1, _, q2, q3, q4, _⟩, hr⟩ hm
            rcases List.mem_cons.1 hm with rfl | hm
            · rw [q1] at e
              obtain rfl : D' = D := by injection e
              rw [hs.keep q2 q3]; exact q4
            · exact ih hr hm
        exact this hd hdd
      · have hB := hw.now hs.below
        have hW : Below b0.w.heap.size b0.w w' := ⟨h3.trans hB.os, h4.trans hB.tape, h5.trans hB.output, by rw [h1]; exact hB.size, fun k hk => (h2' k hk).trans (hB.block k hk)⟩
        obtain ⟨w1, φ1, hs1, e1, e2, e3, e4, e5, e6⟩ := hs.rebase (G := G) (hw.glob.trans hG) (by omega) (fun b _ hb => h2 b (by rw [← hs.base]; exact hb)) (fun id i => φ.base.gh id i) S a.tmps hs.size (fun id c hc => .inl ⟨hc, rfl⟩) (fun s d hd => hs.env s d hd)
        have hw1 : Wc b0 w1 := ⟨e2.trans hG.symm, by rw [e1]; exact hW, fun b hb h => hw.base b hb (by rw [← hs.base]; exact ((e4 b).1 h).1), fun b hb => hw.own hs ((e5 b).1 hb)⟩
        obtain ⟨rvs, rds, hrun, hk, hl, _, hr⟩ := resLW_ok hs1 h
        exact ⟨_, run_results hrun, rvs, S, φ1, rds, a.tmps, w1, w', rfl, hk, hw1, hs1, hl, rfl, fun _ _ => rfl, hW, hr⟩
    refine ⟨fun hw hd h1 hs hn => ?_, fun hw hd h1 hs hn => h1.elim, fun hw hd h1 hs hn => ?_⟩
    · exact fin hw hd h1 hs
    · exact fin hw hd h1 hs
end
section
variable {G : Glob} {P : Program} {f : FuncId} {fn : Func} {c : Code} {ds : List D} {d : D} {n : Nat} {rs : Array ResultVar}
theorem Fn.mkRC (hf : P.funcs[f]? = some fn) (hb : fn.body = some c) (hn : (fn.name == "runtime.NumGoroutine") = false) (hnt : fn.ntmps = n) (hrs : fn.results = rs)
    (h : bodyR G P n rs.toList c ds fun S rds => coeLW S rds fun ds' _ => pack ds' = d) : Fn G P f ds d := by
  subst hnt hrs
  refine ⟨⟨fn, hf, by rw [hb]; rfl, hn⟩, fun b0 vs hG hL ha => (bodyRC_ok hf hb h hG hL ha).mono ?_⟩
  rintro e w' ⟨rvs, S, φ, rds, tmps, w0, w, rfl, hk, hw, hs, hl, hsz, hun, hbl, hr⟩
  obtain ⟨ds', b, rfl, ⟨hl', hr'⟩, _⟩ := coeLW_ok hs hl hr hk
  refine ⟨_, rfl, ?_, hbl⟩
  refine RepR.mono (F := FL φ w) (w := w) ?_ (fun b hb => hun b (by rw [← hs.base]; exact hb.1)) fun b hb => ⟨?_, by rw [hsz]; exact hb.2⟩
  · match rvs, ds', hl' with
    | [], [], _ => exact .tup rfl fun i v d hv => by simp at hv
    | [v], [d], _ => exact hr' 0 v d rfl rfl
    | v :: u :: r, d :: e :: q, hl => exact .tup (by simpa using hl) fun i v d hv hd => hr' i v d (by simpa using hv) hd
  · rcases Nat.lt_or_ge b b0.w.heap.size with h1 | h1
    · exact hw.base b h1 (by rw [← hs.base]; exact hb.1)
    · exact b0.new b h1
theorem FnF.mkRC (hf : P.funcs[f]? = some fn) (hb : fn.body = some c) (hn : (fn.name == "runtime.NumGoroutine") = false) (hnt : fn.ntmps = n) (hrs : fn.results = rs)
    (h : bodyR G P n rs.toList c ds fun S rds => frL S rds ∧ coeLW S rds fun ds' _ => pack ds' = d) : FnF G P f ds d := by
  subst hnt hrs
  refine ⟨⟨fn, hf, by rw [hb]; rfl, hn⟩, fun b0 vs hG hL ha => (bodyRC_ok hf hb h hG hL ha).mono ?_⟩
  rintro e w' ⟨rvs, S, φ, rds, tmps, w0, w, rfl, ⟨hfr, hk⟩, hw, hs, hl, hsz, hun, hbl, hr⟩
  obtain ⟨ds', b, rfl, ⟨hl', hr'⟩⟩ := frL_ok hs hl hr hfr hk
  refine ⟨_, rfl, ?_, hbl⟩
  refine RepR.mono (F := FN w0 w) (w := w) ?_ (fun b hb => hun b ?_) fun b hb => ⟨?_, by rw [hsz]; exact hb.2⟩
  · match rvs, ds', hl' with
    | [], [], _ => exact .tup rfl fun i v d hv => by simp at hv
    | [v], [d], _ => exact hr' 0 v d rfl rfl
    | v :: u :: r, d :: e :: q, hl => exact .tup (by simpa using hl) fun i v d hv hd => hr' i v d (by simpa using hv) hd
  · rcases hb.1 with h1 | h1
    · exact w0.new b h1
    · exact (w0.lb b h1).1
  · rcases hb.1 with h1 | h1
    · exact Nat.le_trans hw.below.size h1
    · exact hw.lent b h1
end
theorem FnF.outT {G : Glob} {P : Program} {f : FuncId} {ds : List D} {d d' e : D} (h : FnF G P f ds (.tup [d', e])) (hw : DW d' d) : FnF G P f ds (.tup [d, e]) :=
  ⟨h.1, fun b0 vs hG hL ha => (h.2 b0 vs hG hL ha).mono fun _ _ ⟨v, h1, h2, h3⟩ => ⟨v, h1, by
    cases h2 with
    | tup hs hr =>
      refine .tup hs fun i v d hv hd => ?_
      match i with
      | 0 => simp at hd; subst hd; exact hw.rep (hr 0 v d' hv rfl)
      | 1 => simp at hd; subst hd; exact hr 1 v e hv rfl
      | i + 2 => simp at hd, h3⟩⟩
end Go.Abs
