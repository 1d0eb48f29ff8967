/-
  AN ABSTRACT WALK, twenty-sixth text: an iterator's contract from its body; the loop over it, in the machine.
-/
import Derived.Test.YtccipobbdohdpaaDoorAbs25
namespace Go.Abs
open Go.RowKit (Below)

section
variable {G : Glob} {P : Program}

theorem YieldsC.mk {f : FuncId} {fn : Func} {c : Code} {caps : List D} {ys : List (List D)} {n : Nat} (hf : P.funcs[f]? = some fn) (hb : fn.body = some c) (hn : (fn.name == "runtime.NumGoroutine") = false) (hnt : fn.ntmps = n) (hrs : fn.results = #[]) (hlen : caps.length + 1 ≤ n)
    (h : ∀ l, wfL caps (codeY G P l ys c ⟨n, 0, envF 0 (.yld l :: caps), [(1000000, [.int .i64 0])]⟩ (endK fun S => lkoW 1000000 S.own fun c => c = [.int .i64 ys.length]))) : YieldsC G P f caps ys := by
  subst hnt
  refine ⟨⟨fn, hf, by rw [hb]; rfl, hn⟩, fun b0 vs l J hG hL ha hI hJ => calls_of_wp hf hb ?_⟩
  let w1 : Bas := ⟨b0.w, ⟨b0.base.mem, fun id _ => if id = 1000000 then some (.int .i64 0) else none⟩, b0.G, b0.new, b0.lent, b0.loc, b0.loc0, b0.lb, b0.gok⟩
  have hsz : (Value.func (.yield l) #[] #[] :: vs).length ≤ fn.ntmps := by simp [ha.1]; omega
  refine (wpIn_fw (n := 0)).1 (codeY_ok hI c (w0 := w1) (φ := ⟨b0.loc, w1.base⟩) ⟨hG, hL, 0, rfl, hJ⟩ ?_ (wfL_ok ha (h l)) ?_)
  · refine ⟨Bel.refl w1, by simp; simp at hsz; omega, fun id c hc => ?_, fun id id' c c' b hc hc' hb => ?_, fun s d hd => ?_, rfl, fun _ _ => rfl⟩
    · simp only [lk] at hc
      split at hc
      · rename_i e; cases hc; subst e
        have e0 : (Loc.mk b0.loc w1.base) 1000000 = (none, 0) := b0.loc0 _
        refine ⟨?_, fun b hb => by rw [e0] at hb; cases hb⟩
        unfold OwnOk
        rw [e0]
        refine ⟨fun i d hd => ?_, rfl⟩
        cases i with
        | zero => simp at hd; subst hd; exact ⟨.int .i64 0, rfl, .ro (.int (by decide) (by decide))⟩
        | succ i => simp at hd
      · cases hc
    · have : (Loc.mk b0.loc w1.base) id = (none, 0) := b0.loc0 _
      rw [this] at hb; cases hb
    · obtain ⟨j, rfl, hj⟩ := envF_ok hd
      have hjl : j < (Value.func (.yield l) #[] #[] :: vs).length := by
        have := (List.getElem?_eq_some_iff.1 hj).1
        simp only [List.length_cons] at this ⊢
        rw [ha.1]; exact this
      refine ⟨(Value.func (.yield l) #[] #[] :: vs)[j], ?_, ?_⟩
      · rw [Nat.zero_add, Array.getElem?_append, if_pos (by simpa using hjl)]
        simp [hjl]
      · cases j with
        | zero => simp at hj; subst hj; exact .ro .yld
        | succ j =>
          refine .ro ((ha.2 j _ d (by simp) (by simpa using hj)).mono (fun _ _ => rfl) fun b hb => ⟨hb.2, fun id c hc e => ?_, hb.1⟩)
          have : (Loc.mk b0.loc w1.base) id = (none, 0) := b0.loc0 _
          rw [this] at e; cases e
  · have fin : ∀ {w0 : Bas} {S : St} {a : Act} {w : World} {φ : Loc}, WY G J w0 → (lkoW 1000000 S.own fun c => c = [.int .i64 ys.length]) → SatC w0 φ S a.tmps w → ∃ v, (results fn a.tmps).run P w = .ok v w ∧ (∃ v', Ending.returned v = .returned v') ∧ ∃ B, J ys.length B w := by
      intro w0 S a w φ hw h hs
      obtain ⟨c, hc, rfl⟩ := lkoW_ok h
      obtain ⟨rvs, rds, hrun, _⟩ := resLW_ok (rs := []) (k := fun _ => True) (P := P) hs trivial
      refine ⟨_, run_results (fn := fn) (vs := rvs) (by rw [hrs]; exact hrun), ⟨_, rfl⟩, ?_⟩
      obtain ⟨i, hgi, hJ⟩ := hw.at_
      have h3 := (hs.own _ _ hc).1
      have hφ : φ 1000000 = (none, 0) := by rw [hs.pin 1000000 (Nat.le_refl _), w0.loc0]
      unfold OwnOk at h3
      rw [hφ] at h3
      obtain ⟨v, b1, b2⟩ := h3.1 0 _ rfl
      obtain ⟨rfl, _⟩ := b2.int_inv
      rw [hs.base, hgi] at b1
      have : (i : Int) = ys.length := by simpa using b1
      obtain rfl : i = ys.length := by omega
      exact ⟨_, hI.grow _ _ _ _ hJ (hs.below.below hw.lent)⟩
    refine ⟨fun hw h1 hs hn hd => ?_, fun hw h1 hs hn hd => h1.elim, fun hw h1 hs hn hd => ?_⟩
    · exact ⟨hd, fin hw h1 hs⟩
    · exact ⟨hd, fin hw h1 hs⟩
end

/-! ### The slots of a round's frame -/
def setL (tmps : Array Value) : List (Nat × Value) → Array Value
  | [] => tmps
  | (t, v) :: r => setL (tmps.setIfInBounds t v) r
theorem setL_size : ∀ {l : List (Nat × Value)} {tmps : Array Value}, (setL tmps l).size = tmps.size
  | [], _ => rfl
  | (t, v) :: r, tmps => by simp only [setL]; rw [setL_size]; simp
theorem setL_other {s : Nat} : ∀ {l : List (Nat × Value)} {tmps : Array Value}, (∀ p ∈ l, p.1 ≠ s) → (setL tmps l)[s]? = tmps[s]?
  | [], _, _ => rfl
  | (t, v) :: r, tmps, h => by
    simp only [setL]
    rw [setL_other (fun p hp => h p (by simp [hp])), Array.getElem?_setIfInBounds_ne (h (t, v) (by simp))]
theorem setL_get : ∀ {l : List (Nat × Value)} {tmps : Array Value} {j t : Nat} {v : Value}, (l.map Prod.fst).Nodup → l[j]? = some (t, v) → t < tmps.size → (setL tmps l)[t]? = some v
  | [], _, j, _, _, _, h, _ => by simp at h
  | (t, v) :: r, tmps, 0, t', v', hn, h, ht => by
    simp at h; obtain ⟨rfl, rfl⟩ := h
    simp only [setL]
    rw [setL_other (fun p hp e => ?_), Array.getElem?_setIfInBounds_self_of_lt ht]
    simp only [List.map_cons, List.nodup_cons] at hn
    exact hn.1 (List.mem_map.2 ⟨p, hp, e⟩)
  | (t, v) :: r, tmps, j + 1, t', v', hn, h, ht => by
    simp only [setL]
    simp only [List.map_cons, List.nodup_cons] at hn
    exact setL_get hn.2 (by simpa using h) (by simpa using ht)
theorem setL_fold (ps : Array Tmp) (vs : List Value) (tmps : Array Value) : (ps.zip vs.toArray).foldl (fun tmps (t, a) => tmps.setIfInBounds t a) tmps = setL tmps (ps.toList.zip vs) := by
  rw [← Array.foldl_toList, Array.toList_zip]
  simp only
  generalize ps.toList.zip vs = l
  induction l generalizing tmps with
  | nil => rfl
  | cons x r ih => obtain ⟨t, v⟩ := x; simp only [List.foldl_cons, setL]; exact ih _
def parE : List Nat → List D → List (Nat × D) → List (Nat × D)
  | p :: ps, d :: ds, E => (p, d) :: parE ps ds E
  | _, _, E => E
theorem parE_ok : ∀ {ps : List Nat} {ds : List D} {E : List (Nat × D)} {s : Nat} {d : D}, ds.length = ps.length → lk s (parE ps ds E) = some d → (∃ j : Nat, ps[j]? = some s ∧ ds[j]? = some d) ∨ (¬ s ∈ ps ∧ lk s E = some d)
  | [], [], E, s, d, _, h => .inr ⟨by simp, h⟩
  | p :: ps, e :: ds, E, s, d, hl, h => by
    simp only [parE, lk] at h
    split at h
    · rename_i e1; cases h; subst e1; exact .inl ⟨0, rfl, rfl⟩
    · rename_i e1
      rcases parE_ok (by simpa using hl) h with ⟨j, h1, h2⟩ | ⟨h1, h2⟩
      · exact .inl ⟨j + 1, by simpa using h1, by simpa using h2⟩
      · exact .inr ⟨by simp [e1, h1], h2⟩

/-! ### A base goes on from another -/
structure Wc (b0 w0 : Bas) : Prop where
  glob : w0.G = b0.G
  below : Below b0.w.heap.size b0.w w0.w
  base : ∀ b, b < b0.w.heap.size → w0.base b → b0.base b
  lent : ∀ b, w0.lent b → b0.w.heap.size ≤ b
theorem Wc.now {b0 w0 : Bas} (h : Wc b0 w0) {w : World} (hb : Bel w0 w) : Below b0.w.heap.size b0.w w :=
  ⟨hb.os.trans h.below.os, hb.tape.trans h.below.tape, hb.output.trans h.below.output, Nat.le_trans h.below.size hb.size, fun k hk => (hb.block k (Nat.lt_of_lt_of_le hk h.below.size) fun hl => absurd (h.lent k hl) (by omega)).trans (h.below.block k hk)⟩
theorem Wc.own {b0 w0 : Bas} (h : Wc b0 w0) {w : World} {φ : Loc} {S : St} {tmps : Array Value} (hs : SatC w0 φ S tmps w) {b : Nat} (hb : ownB φ S.own b) : b0.w.heap.size ≤ b := by
  obtain ⟨id, c, hc, hb⟩ := hb
  rcases (hs.own id c hc).2 b hb with h1 | h1
  · exact Nat.le_trans h.below.size h1
  · exact h.lent b h1
/-- The deferred calls: marks of loops that are over (their blocks: from m on). -/
def dfOk (m : Nat) (w0 : Bas) : List Deferred → Prop
  | [] => True
  | d :: r => (∃ D, d = { target := .collected D, args := #[] } ∧ m ≤ D ∧ D < w0.w.heap.size ∧ ¬ w0.base D ∧ w0.w.heap[D]? = some (.deferred (some [])) ∧ ∀ d' ∈ r, d'.target ≠ .collected D) ∧ dfOk m w0 r
theorem dfOk.to {m : Nat} {w0 w1 : Bas} (hsz : w0.w.heap.size ≤ w1.w.heap.size) (hb : ∀ b, b < w0.w.heap.size → w1.base b → w0.base b) (hh : ∀ D, D < w0.w.heap.size → ¬ w0.base D → w0.w.heap[D]? = some (.deferred (some [])) → w1.w.heap[D]? = some (.deferred (some []))) : ∀ {ds : List Deferred}, dfOk m w0 ds → dfOk m w1 ds
  | [], _ => trivial
  | d :: r, ⟨⟨D, h1, hm, h2, h3, h4, h5⟩, h⟩ => ⟨⟨D, h1, hm, Nat.lt_of_lt_of_le h2 hsz, fun h => h3 (hb D h2 h), hh D h2 h3 h4, h5⟩, dfOk.to hsz hb hh h⟩
theorem dfOk.lt {m : Nat} {w0 : Bas} : ∀ {ds : List Deferred}, dfOk m w0 ds → ∀ d ∈ ds, ∃ D, d.target = .collected D ∧ D < w0.w.heap.size
  | [], _, d, h => by simp at h
  | e :: r, ⟨⟨D, h1, hm, h2, _⟩, h⟩, d, hd => by
    rcases List.mem_cons.1 hd with rfl | hd
    · exact ⟨D, by rw [h1], h2⟩
    · exact dfOk.lt h d hd

theorem SatC.keep {w0 : Bas} {w : World} {φ : Loc} {S : St} {tmps : Array Value} (hs : SatC w0 φ S tmps w) {D : Nat} (h1 : D < w0.w.heap.size) (h2 : ¬ w0.base D) : w.heap[D]? = w0.w.heap[D]? :=
  hs.below.block D h1 fun hl => h2 (w0.lb D hl).1
theorem SatC.ownNB {w0 : Bas} {w : World} {φ : Loc} {S : St} {tmps : Array Value} (hs : SatC w0 φ S tmps w) {b : Nat} (hb : ownB φ S.own b) : w0.base b ∧ b < w.heap.size := by
  obtain ⟨id, c, hc, hb⟩ := hb
  have := own_FL hs hc hb
  exact ⟨by rw [← hs.base]; exact this.1, this.2⟩

/-- How far a loop has come, for its caller. -/
structure JR (b0 : Bas) (df : List Deferred) (n : Nat) (tmps : Array Value) (T : List (Nat × D)) (D l : Nat) (rec : Loop) (I : Nat → St) (i : Nat) (B : Nat → Prop) (W : World) (w0 : Bas) (φ : Loc) : Prop where
  wc : Wc b0 w0
  df : dfOk b0.w.heap.size w0 df
  sat : SatC w0 φ ⟨n, (I i).nx, [], (I i).own⟩ tmps W
  gh : ∀ j, w0.base.gh 1000001 j = (T[j]?).bind fun p => tmps[p.1]?
  nbD : ¬ w0.base D
  nbl : ¬ w0.base l
  ltD : D < w0.w.heap.size
  ltl : l < w0.w.heap.size
  atl : W.heap[l]? = some (.loop rec)
  atD : W.heap[D]? = some (.deferred (some []))
  lt : ∀ b, B b → b < W.heap.size
  nD : ¬ B D
  nl : ¬ B l
  nown : ∀ b, ownB φ (I i).own b → ¬ B b

/-! ### The loop -/
def rngW (G : Glob) (P : Program) (df : D) (ps : List Nat) (A B : St → (Ex → St → Prop) → Prop) (S : St) (K : Ex → St → Prop) : Prop :=
  match df with
  | .fn f caps => ∃ (ys : List (List D)) (T : List (Nat × D)) (I : Nat → St), YieldsC G P f caps ys ∧ (∀ ds ∈ ys, ds.length = ps.length) ∧ ps.Nodup ∧ (∀ p ∈ ps, p < S.n) ∧ wkE S.env T ∧ noO 1000001 S.own ∧ wkO ((1000001, sndE T) :: S.own) (I 0).own ∧
      (∀ (i : Nat) ds, ys[i]? = some ds → wfL ds (lkoW 1000001 (I i).own fun cs => A ⟨S.n, (I i).nx, parE ps ds (zpE T cs), (I i).own⟩ (onlyN fun S1 => B S1 (onlyN fun S2 => wkO S2.own (I (i + 1)).own)))) ∧
      lkoW 1000001 (I ys.length).own fun cs => dropO 1000001 (I ys.length).own fun own2 => K .nrm ⟨S.n, (I ys.length).nx, zpE T cs, own2⟩
  | _ => False

section
variable {G : Glob} {P : Program} {N : Nat}

theorem rng_round {b0 : Bas} {df : List Deferred} {n : Nat} {tmps : Array Value} {T : List (Nat × D)} {D0 l : Nat} {ps : Array Tmp} {assign body : Code} {fn : FuncId} {I : Nat → St} {rec : LoopState → Loop} (hrec : rec = fun st => { state := st, pending := none, fn, tmps, params := ps, assign, body, defers := D0 })
    (hbG : b0.G = G) (hDl : D0 ≠ l) (hlb : b0.w.heap.size ≤ l) (hnd : ps.toList.Nodup) (hpn : ∀ p ∈ ps.toList, p < n) {i : Nat} {B : Nat → Prop} {W : World} {vs : List Value} {ds : List D} (hdl : ds.length = ps.toList.length)
    (hA : wfL ds (lkoW 1000001 (I i).own fun cs => codeW G P assign ⟨n, (I i).nx, parE ps.toList ds (zpE T cs), (I i).own⟩ (onlyN fun S1 => codeW G P body S1 (onlyN fun S2 => wkO S2.own (I (i + 1)).own))))
    {w0 : Bas} {φ : Loc} (hj : JR b0 df n tmps T D0 l (rec .ready) I i B W w0 φ) (ha : FArgs W (fun _ => False) vs ds) :
    ∃ fn' tmps' assign' body', (Instr.yield l vs.toArray).run P W = .ok (.round l fn' tmps' assign' body') W ∧
      ∀ m, RoundIn (fw none) m P l fn' tmps' assign' body' W fun e W' => e = .returned (.bool true) ∧ (∃ w0' φ', JR b0 df n tmps T D0 l (rec .ready) I (i + 1) B W' w0' φ') ∧ W.heap.size ≤ W'.heap.size ∧ ∀ b, b < W.heap.size → B b → W'.heap[b]? = W.heap[b]? := by
  have hvl : vs.length = ps.toList.length := ha.1.trans hdl
  have hat := hj.atl
  have hG0 : GOk G w0 := hj.wc.glob.trans hbG
  have hy := run_yield (P := P) (args := vs.toArray) hat (by rw [hrec]; simpa using hvl)
  rw [hrec] at hy
  simp only [setL_fold] at hy
  refine ⟨_, _, _, _, hy, fun m => roundIn_of_wpIn trivial ?_⟩
  obtain ⟨cs, hcs, hA⟩ := lkoW_ok (wfL_ok ha hA)
  -- the round's frame
  obtain ⟨w1, φ1, hs1, e1, e2, e3, e4, e5, e6⟩ := hj.sat.rebase (w' := W) hG0 (Nat.le_refl _) (fun _ _ _ => rfl) φ.base.gh ⟨n, (I i).nx, parE ps.toList ds (zpE T cs), (I i).own⟩ (setL tmps (ps.toList.zip vs)) (by rw [setL_size]; exact hj.sat.size) (fun id c hc => .inl ⟨hc, rfl⟩) (fun s d hd => by
    have hts : tmps.size = n := hj.sat.size
    rcases parE_ok hdl hd with ⟨j, h1, h2⟩ | ⟨h1, h2⟩
    · obtain ⟨v, hv⟩ : ∃ v, vs[j]? = some v := ⟨vs[j]'(by rw [hvl]; exact (List.getElem?_eq_some_iff.1 h1).1), by simp⟩
      refine ⟨v, setL_get ?_ (j := j) ?_ (by rw [hts]; exact hpn s (List.mem_of_getElem? h1)), .ro ((ha.2 j v d hv h2).mono (fun _ _ => rfl) fun _ h => h.elim)⟩
      · rw [List.map_fst_zip (by omega)]; exact hnd
      · rw [List.getElem?_zip_eq_some]; exact ⟨h1, hv⟩
    · obtain ⟨k, e, h3, h4⟩ := zpE_ok h2
      have hφ : φ 1000001 = (none, 0) := by rw [hj.sat.pin 1000001 (by decide), w0.loc0]
      have h5 := (hj.sat.own _ _ hcs).1
      unfold OwnOk at h5
      rw [hφ] at h5
      obtain ⟨v, b1, b2⟩ := h5.1 k d h4
      rw [hj.sat.base, hj.gh, h3] at b1
      refine ⟨v, ?_, b2⟩
      rw [setL_other (fun p hp e => h1 (by rw [← e]; exact (List.of_mem_zip hp).1))]
      exact b1)
  have hlW : l < W.heap.size := Nat.lt_of_lt_of_le hj.ltl hj.sat.below.size
  have hDW : D0 < W.heap.size := Nat.lt_of_lt_of_le hj.ltD hj.sat.below.size
  have nb1 : ∀ {b}, ¬ w0.base b → ¬ w1.base b := fun h hb => h (by rw [← hj.sat.base]; exact ((e4 _).1 hb).1)
  refine codeW_ok (r := some l) (w0 := w1) (S := ⟨n, (I i).nx, parE ps.toList ds (zpE T cs), (I i).own⟩) e2 assign hs1 hA ⟨?_, fun h1 => h1.elim, fun h1 => h1.elim⟩
  intro S1 a1 W1 φ2 hB hs2 hn2 hd2
  have l1 : W1.heap[l]? = some (.loop (rec .ready)) := by
    rw [hs2.keep (by rw [e1]; exact hlW) (nb1 hj.nbl), e1]; exact hat
  refine ⟨_, run_beginRound l1 (by rw [hrec]), ?_⟩
  have hl1 : l < W1.heap.size := (Array.getElem?_eq_some_iff.1 l1).1
  -- the body's
  obtain ⟨w3, φ3, hs3, f1, f2, f3, f4, f5, f6⟩ := hs2.rebase (w' := W1.putObj l (.loop { rec .ready with state := .busy })) e2 (by simp) (fun b _ hb => World.putObj_heap_other (fun e => nb1 hj.nbl (by rw [← e, ← hs2.base]; exact hb))) φ2.base.gh S1 a1.tmps hs2.size (fun id c hc => .inl ⟨hc, rfl⟩) (fun s d hd => hs2.env s d hd)
  have nb3 : ∀ {b}, ¬ w0.base b → ¬ w3.base b := fun h hb => nb1 h (by rw [← hs2.base]; exact ((f4 _).1 hb).1)
  refine codeW_ok (r := some l) (w0 := w3) f2 body hs3 hB ⟨?_, fun h1 => h1.elim, fun h1 => h1.elim⟩
  intro S2 a2 W3 φ4 hw hs4 hn4 hd4
  have hsz3 : w3.w.heap.size = W1.heap.size := by rw [f1]; simp
  have l3 : W3.heap[l]? = some (.loop { rec .ready with state := .busy }) := by
    rw [hs4.keep (by rw [hsz3]; exact hl1) (nb3 hj.nbl), f1]; exact World.putObj_heap_same hl1
  have hend := run_endRound (P := P) none l3
  refine ⟨_, _, hend, rfl, ?_⟩
  have hl3 : l < W3.heap.size := (Array.getElem?_eq_some_iff.1 l3).1
  have hback : ({ ({ rec .ready with state := .busy } : Loop) with state := if (none : Option Code).isNone = true then LoopState.ready else LoopState.done, pending := none } : Loop) = rec .ready := by rw [hrec]; rfl
  rw [hback]
  obtain ⟨w5, φ5, hs5, g1, g2, g3, g4, g5, g6⟩ := hs4.rebase (w' := W3.putObj l (.loop (rec .ready))) f2 (by simp) (fun b _ hb => World.putObj_heap_other (fun e => nb3 hj.nbl (by rw [← e, ← hs4.base]; exact hb))) φ4.base.gh ⟨n, (I (i + 1)).nx, [], (I (i + 1)).own⟩ tmps hj.sat.size (fun id c hc => .inl ⟨wkO_ok hw id c hc, rfl⟩) (fun s d hd => by simp [lk] at hd)
  have nb5 : ∀ {b}, ¬ w0.base b → ¬ w5.base b := fun h hb => nb3 h (by rw [← hs4.base]; exact ((g4 _).1 hb).1)
  have s01 : W.heap.size ≤ W1.heap.size := by have := hs2.below.size; rw [e1] at this; exact this
  have s13 : W1.heap.size ≤ W3.heap.size := by have := hs4.below.size; rw [hsz3] at this; exact this
  have ob : b0.w.heap.size ≤ W.heap.size := Nat.le_trans hj.wc.below.size hj.sat.below.size
  -- whose blocks the own ones are
  have own2 : ∀ b, ownB φ2 S1.own b → W.heap.size ≤ b ∨ ownB φ (I i).own b := by
    rintro b ⟨id, c, hc, hb⟩
    rcases (hs2.own id c hc).2 b hb with h | h
    · rw [e1] at h; exact .inl h
    · exact .inr ((e5 b).1 h)
  have own4 : ∀ b, ownB φ4 (I (i + 1)).own b → W.heap.size ≤ b ∨ ownB φ (I i).own b := by
    rintro b ⟨id, c, hc, hb⟩
    rcases (hs4.own id c (wkO_ok hw id c hc)).2 b hb with h | h
    · rw [hsz3] at h; exact .inl (Nat.le_trans s01 h)
    · exact own2 b ((f5 b).1 h)
  have ownb : ∀ b, ownB φ (I i).own b → b0.w.heap.size ≤ b := fun b hb => hj.wc.own hj.sat hb
  have wc1 : Wc b0 w1 := ⟨e2.trans hbG.symm, by rw [e1]; exact hj.wc.now hj.sat.below, fun b h hb => hj.wc.base b h (by rw [← hj.sat.base]; exact ((e4 b).1 hb).1), fun b hb => ownb b ((e5 b).1 hb)⟩
  have put : ∀ {X : World} {o : Obj}, Below b0.w.heap.size b0.w X → Below b0.w.heap.size b0.w (X.putObj l o) := fun h => ⟨h.os, h.tape, h.output, by simpa using h.size, fun k hk => (World.putObj_heap_other (by omega)).trans (h.block k hk)⟩
  have wc3 : Wc b0 w3 := ⟨f2.trans hbG.symm, by rw [f1]; exact put (wc1.now hs2.below), fun b h hb => wc1.base b h (by rw [← hs2.base]; exact ((f4 b).1 hb).1), fun b hb => by
    rcases own2 b ((f5 b).1 hb) with h | h
    · omega
    · exact ownb b h⟩
  have wc5 : Wc b0 w5 := ⟨g2.trans hbG.symm, by rw [g1]; exact put (wc3.now hs4.below), fun b h hb => wc3.base b h (by rw [← hs4.base]; exact ((g4 b).1 hb).1), fun b hb => by
    rcases own4 b ((g5 b).1 hb) with h | h
    · omega
    · exact ownb b h⟩
  -- what is not the caller's lies as it lay
  have still : ∀ b, b < W.heap.size → b ≠ l → ¬ ownB φ (I i).own b → (W3.putObj l (.loop (rec .ready))).heap[b]? = W.heap[b]? := by
    intro b hb hne hno
    rw [World.putObj_heap_other hne, hs4.below.block b (by rw [hsz3]; omega) (fun h => by
      rcases own2 b ((f5 b).1 h) with h | h
      · omega
      · exact hno h), f1, World.putObj_heap_other hne, hs2.below.block b (by rw [e1]; exact hb) (fun h => hno ((e5 b).1 h)), e1]
  have nbown : ∀ b, ¬ w0.base b → ¬ ownB φ (I i).own b := fun b h ho => h (hj.sat.ownNB ho).1
  refine ⟨⟨w5, φ5, wc5, ?_, hs5, ?_, nb5 hj.nbD, nb5 hj.nbl, ?_, ?_, ?_, ?_, ?_, hj.nD, hj.nl, ?_⟩, ?_, ?_⟩
  · refine hj.df.to ?_ (fun b hb h => ?_) (fun D h1 h2 h3 => ?_)
    · rw [g1]; simp; exact Nat.le_trans hj.sat.below.size (Nat.le_trans s01 s13)
    · exact Classical.byContradiction fun hn => nb5 hn h
    · have hD : D < W.heap.size := Nat.lt_of_lt_of_le h1 hj.sat.below.size
      have hW : W.heap[D]? = some (.deferred (some [])) := (hj.sat.keep h1 h2).trans h3
      rw [g1, still D hD (fun e => by rw [e] at hW; rw [hat] at hW; cases hW) (nbown D h2)]
      exact hW
  · intro j
    rw [g3, hs4.base, f3, hs2.base, e3, hj.sat.base]; exact hj.gh j
  · rw [g1]; simp; omega
  · rw [g1]; simp; exact hl3
  · exact World.putObj_heap_same hl3
  · rw [still D0 hDW hDl (nbown D0 hj.nbD)]; exact hj.atD
  · intro b hb; have := hj.lt b hb; simp; omega
  · intro b hb hBb
    have hb : ownB φ4 (I (i + 1)).own b := by
      obtain ⟨id, c, hc, hb⟩ := hb
      exact ⟨id, c, hc, by rw [← g6]; exact hb⟩
    rcases own4 b hb with h | h
    · have := hj.lt b hBb; omega
    · exact hj.nown b h hBb
  · simp; omega
  · intro b hb hBb
    exact still b hb (fun e => hj.nl (by rw [← e]; exact hBb)) fun ho => hj.nown b ho hBb
end
end Go.Abs
