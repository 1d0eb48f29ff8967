/-
  AN ABSTRACT WALK, twenty-seventh text: code that holds a range over a function; contracts from such bodies.
-/
import Derived.Test.YtdjfnipabekkaaaAbs26
namespace Go.Abs
open Go.RowKit (Below)

section
variable {G : Glob} {P : Program} {N : Nat}

theorem rng_ok {b0 w0 : Bas} {w : World} {φ : Loc} {S : St} {a : Act} {K : Ex → St → Prop} {Q : Exit → Act → World → Prop} {g : Operand} {ps : Array Tmp} {assign body : Code} {df : D} (hbG : b0.G = G) (hc : Wc b0 w0) (hd : dfOk b0.w.heap.size w0 a.defers) (hs : SatC w0 φ S a.tmps w)
    (hge : Rep φ w (FSx φ S.own w) (a.eval g) df) (h : rngW G P df ps.toList (fun S K => codeW G P assign S K) (fun S K => codeW G P body S K) S K)
    (q : ∀ w0' S' a' w' φ', Wc b0 w0' → dfOk b0.w.heap.size w0' a'.defers → K .nrm S' → SatC w0' φ' S' a'.tmps w' → S'.n = S.n → Q .normal a' w') : (Code.rangeFunc g ps assign body).wpIn (fw none) N P Q a w := by
  cases df with
  | fn f caps =>
    generalize hfe : a.eval g = fv at hge
    cases hge with
    | ro hge =>
      cases hge with
      | @fn _ capv _ q1 q2 =>
        obtain ⟨ys, T, I, hY, hyl, hnd, hpn, hT, hno, h0, hround, hend⟩ := h
        obtain ⟨⟨fnc, hfn, hbody, hname⟩, hY⟩ := hY
        have hG : GOk G w0 := hc.glob.trans hbG
        have hT := wkE_get hT
        have hno := noO_ok hno
        refine wpIn_rangeFunc ?_
        intro fn _
        obtain ⟨rec, hrec⟩ : ∃ rec : LoopState → Loop, rec = fun st => { state := st, pending := none, fn, tmps := a.tmps, params := ps, assign, body, defers := w.heap.size } := ⟨_, rfl⟩
        obtain ⟨W1, hW1⟩ : ∃ W1, (w.alloc (.deferred (some []))).alloc (.loop (rec .ready)) = W1 := ⟨_, rfl⟩
        have hb1 : Below w.heap.size w W1 := by rw [← hW1]; exact ((Below.refl _ w).alloc (Nat.le_refl _) _).alloc (by simp) _
        have hsz : W1.heap.size = w.heap.size + 2 := by rw [← hW1]; simp
        have hL1 : W1.heap[w.heap.size + 1]? = some (.loop (rec .ready)) := by
          rw [← hW1]; have := World.alloc_heap_new (w.alloc (.deferred (some []))) (.loop (rec .ready)); rwa [World.size_alloc] at this
        have hD1 : W1.heap[w.heap.size]? = some (.deferred (some [])) := by
          rw [← hW1]; exact (Below.heap_alloc _ _ _ (by simp)).trans (World.alloc_heap_new w _)
        have hb : fnc.body ≠ none := by cases hx : fnc.body <;> simp [hx] at hbody ⊢
        have hname' : fnc.name ≠ "runtime.NumGoroutine" := by simpa using hname
        refine ⟨w.heap.size + 1, [{ target := .collected w.heap.size, args := #[] }], W1, { target := .fn (.func f) capv, args := #[.func (.yield (w.heap.size + 1)) #[] #[]] }, W1, f,
          #[.func (.yield (w.heap.size + 1)) #[] #[]] ++ capv, W1, ?_, ?_, fun _ _ => trivial, ?_, (fun h => by cases h), ?_⟩
        · rw [← hW1, hrec]; exact run_enterLoop_outer _ _ _ _ _
        · simp [resolve, hfe, Deferred.ofValue, rangeCall] <;> rfl
        · simp [invoke, callFunc, hfn, hb, hname']
        refine callsIn_fw.2 ?_
        let b1 : Bas := ⟨W1, ⟨fun b => FSx φ S.own w b ∨ W1.heap.size ≤ b, fun _ _ => none⟩, G, fun b h => .inr h, fun _ => False, fun _ => (none, 0), fun _ => rfl, fun b h => h.elim,
          fun g cs hg => (glob_ok hG hs hg).mono (fun b hb => hb1.block b hb.1) fun b hb => ⟨.inl hb, Nat.lt_of_lt_of_le hb.1 hb1.size, fun h => h⟩⟩
        let J : Nat → (Nat → Prop) → World → Prop := fun i B W => ∃ w0 φ, JR b0 a.defers S.n a.tmps T w.heap.size (w.heap.size + 1) (rec .ready) I i B W w0 φ
        have ob : b0.w.heap.size ≤ w.heap.size := Nat.le_trans hc.below.size hs.below.size
        have hφ : φ 1000001 = (none, 0) := by rw [hs.pin 1000001 (by decide), w0.loc0]
        have hI : Itr P (w.heap.size + 1) ys J := by
          refine ⟨?_, ?_, ?_⟩
          · rintro i B W W' ⟨w0', φ', hj⟩ hb
            have hlW : w.heap.size + 1 < W.heap.size := Nat.lt_of_lt_of_le hj.ltl hj.sat.below.size
            exact ⟨w0', φ', hj.wc, hj.df, hj.sat.ext hb, hj.gh, hj.nbD, hj.nbl, hj.ltD, hj.ltl, (hb.block _ hlW).trans hj.atl, (hb.block _ (by omega)).trans hj.atD, fun b hbb => by
                rcases hbb with h | h
                · exact Nat.lt_of_lt_of_le (hj.lt b h) hb.size
                · exact h.2, fun h => by
                rcases h with h | h
                · exact hj.nD h
                · omega, fun h => by
                rcases h with h | h
                · exact hj.nl h
                · omega, fun b hb h => by
                rcases h with h | h
                · exact hj.nown b hb h
                · have := (hj.sat.ownNB hb).2; omega⟩
          · rintro i B B' W hBB ⟨w0', φ', hj⟩
            exact ⟨w0', φ', hj.wc, hj.df, hj.sat, hj.gh, hj.nbD, hj.nbl, hj.ltD, hj.ltl, hj.atl, hj.atD, fun b h => hj.lt b (hBB b h), fun h => hj.nD (hBB _ h), fun h => hj.nl (hBB _ h), fun b hb h => hj.nown b hb (hBB b h)⟩
          · rintro i B W vs ds hi ⟨w0', φ', hj⟩ ha
            exact rng_round hrec hbG (by omega) (by omega) hnd hpn (hyl ds (List.mem_of_getElem? hi)) (hround i ds hi) hj ha
        -- where the loop begins
        let gh' : Nat → Nat → Option Value := fun id j => if id = 1000001 then (T[j]?).bind fun p => a.tmps[p.1]? else φ.base.gh id j
        obtain ⟨w2, φ2, hs2, e1, e2, e3, e4, e5, e6⟩ := hs.rebase hG hb1.size (fun b hb _ => hb1.block b hb) gh' ⟨S.n, (I 0).nx, [], (I 0).own⟩ a.tmps hs.size (fun id c hc => by
          have hc := wkO_ok h0 id c hc
          simp only [lk] at hc
          split at hc
          · rename_i e; cases hc; subst e
            refine .inr ⟨hφ, fun j d hd => ?_⟩
            rw [sndE_map, List.getElem?_map] at hd
            cases e : T[j]? with
            | none => rw [e] at hd; cases hd
            | some p =>
              rw [e] at hd
              obtain rfl : p.2 = d := Option.some.inj hd
              obtain ⟨v, hv, hr⟩ := hs.env p.1 p.2 (hT j p e)
              exact ⟨v, by simp only [gh', if_true, e]; exact hv, hr⟩
          · rename_i e; exact .inl ⟨hc, by funext j; simp only [gh']; rw [if_neg e]⟩) (fun s d hd => by simp [lk] at hd)
        have wc2 : Wc b0 w2 := ⟨e2.trans hbG.symm, by
            rw [e1]; exact ⟨hb1.os.trans (hc.now hs.below).os, hb1.tape.trans (hc.now hs.below).tape, hb1.output.trans (hc.now hs.below).output, Nat.le_trans ob hb1.size, fun k hk => (hb1.block k (by omega)).trans ((hc.now hs.below).block k hk)⟩,
          fun b h hb => hc.base b h (by rw [← hs.base]; exact ((e4 b).1 hb).1), fun b hb => by
            obtain ⟨id, c, hcc, hb⟩ := (e5 b).1 hb
            have hcc := wkO_ok h0 id c hcc
            simp only [lk] at hcc
            split at hcc
            · rename_i e; subst e; rw [hφ] at hb; cases hb
            · exact hc.own hs ⟨id, c, hcc, hb⟩⟩
        have nb2 : ∀ {b}, w.heap.size ≤ b → b < W1.heap.size → ¬ w2.base b := fun h1 h2 hb => by have := ((e4 _).1 hb).2; omega
        have hJ0 : J 0 (fun b => b1.base b ∧ b < b1.w.heap.size) b1.w := by
          refine ⟨w2, φ2, wc2, ?_, hs2, fun j => by rw [e3]; simp [gh'], nb2 (by omega) (by omega), nb2 (by omega) (by omega), by rw [e1]; omega, by rw [e1]; omega, hL1, hD1, fun b hb => hb.2, ?_, ?_, ?_⟩
          · refine hd.to ?_ (fun b hb h => ?_) (fun D h1 h2 h3 => ?_)
            · rw [e1]; exact Nat.le_trans hs.below.size hb1.size
            · rw [← hs.base]; exact ((e4 b).1 h).1
            · rw [e1, hb1.block D (Nat.lt_of_lt_of_le h1 hs.below.size), hs.keep h1 h2]; exact h3
          · rintro ⟨h | h, h2⟩
            · exact absurd h.1 (by omega)
            · have : W1.heap.size ≤ w.heap.size := h; omega
          · rintro ⟨h | h, h2⟩
            · exact absurd h.1 (by omega)
            · have : W1.heap.size ≤ w.heap.size + 1 := h; omega
          · rintro b ⟨id, c, hcc, hb⟩ ⟨h | h, h2⟩
            · have hcc := wkO_ok h0 id c hcc
              simp only [lk] at hcc
              rw [e6] at hb
              split at hcc
              · rename_i e; subst e; rw [hφ] at hb; cases hb
              · exact h.2 id c hcc hb
            · have h1 : W1.heap.size ≤ b := h
              have h2 : b < W1.heap.size := h2
              omega
        have hcall := hY b1 capv.toList (w.heap.size + 1) J rfl (fun _ h => h) ⟨by simpa using q1, fun i v d hv hd => (q2 i v d (by simpa using hv) hd).mono (fun b hb => hb1.block b hb.1) fun b hb => ⟨.inl hb, Nat.lt_of_lt_of_le hb.1 hb1.size⟩⟩ hI hJ0
        have eargs : (Value.func (.yield (w.heap.size + 1)) #[] #[] :: capv.toList).toArray = #[.func (.yield (w.heap.size + 1)) #[] #[]] ++ capv := by apply Array.ext'; simp
        rw [eargs] at hcall
        refine hcall.mono ?_
        rintro e W3 ⟨⟨v, rfl⟩, B, w4, φ4, hj⟩
        obtain ⟨cs, hcs, hend⟩ := lkoW_ok hend
        obtain ⟨own2, hend, ho⟩ := dropO_ok hend
        have hl3 : w.heap.size + 1 < W3.heap.size := (Array.getElem?_eq_some_iff.1 hj.atl).1
        have hrd : (rec .ready).state ≠ .busy := by rw [hrec]; simp
        have hpn : (rec .ready).pending = none := by rw [hrec]
        refine ⟨none, _, (run_endLoop (P := P) hj.atl hrd).trans (congrArg (fun p => Result.ok p (W3.putObj (w.heap.size + 1) (.loop { rec .ready with state := .exhausted }))) hpn), ?_⟩
        have hG4 : GOk G w4 := hj.wc.glob.trans hbG
        have hφ4 : φ4 1000001 = (none, 0) := by rw [hj.sat.pin 1000001 (by decide), w4.loc0]
        obtain ⟨w6, φ6, hs6, g1, g2, g3, g4, g5, g6⟩ := hj.sat.rebase (w' := W3.putObj (w.heap.size + 1) (.loop { rec .ready with state := .exhausted })) hG4 (by simp) (fun b _ hb => World.putObj_heap_other (fun e => hj.nbl (by rw [← e, ← hj.sat.base]; exact hb))) φ4.base.gh ⟨S.n, (I ys.length).nx, zpE T cs, own2⟩ a.tmps hs.size (fun id c hcc => by
            refine .inl ⟨?_, rfl⟩
            by_cases e : id = 1000001
            · rw [(ho id).1 e] at hcc; cases hcc
            · rw [(ho id).2 e] at hcc; exact hcc) (fun s d hdd => by
            obtain ⟨k, e, h3, h4⟩ := zpE_ok hdd
            have h5 := (hj.sat.own _ _ hcs).1
            unfold OwnOk at h5
            rw [hφ4] at h5
            obtain ⟨v, c1, c2⟩ := h5.1 k d h4
            rw [hj.sat.base, hj.gh, h3] at c1
            exact ⟨v, c1, c2⟩)
        have hown6 : ∀ {id c}, lk id own2 = some c → lk id (I ys.length).own = some c := by
          intro id c hcc
          by_cases e : id = 1000001
          · rw [(ho id).1 e] at hcc; cases hcc
          · rw [(ho id).2 e] at hcc; exact hcc
        have wc6 : Wc b0 w6 := by
          have hn := hj.wc.now hj.sat.below
          refine ⟨g2.trans hbG.symm, ?_, fun b h hb => hj.wc.base b h (by rw [← hj.sat.base]; exact ((g4 b).1 hb).1), fun b hb => ?_⟩
          · rw [g1]; exact ⟨hn.os, hn.tape, hn.output, by simpa using hn.size, fun k hk => (World.putObj_heap_other (by omega)).trans (hn.block k hk)⟩
          · obtain ⟨id, c, hcc, hb⟩ := (g5 b).1 hb
            exact hj.wc.own hj.sat ⟨id, c, hown6 hcc, hb⟩
        have nb6 : ∀ {b}, ¬ w4.base b → ¬ w6.base b := fun h hb => h (by rw [← hj.sat.base]; exact ((g4 _).1 hb).1)
        have hw3 : w.heap.size < W3.heap.size := by omega
        refine q w6 _ { a with defers := [{ target := .collected w.heap.size, args := #[] }] ++ a.defers } _ φ6 wc6 ?_ hend hs6 rfl
        refine ⟨⟨w.heap.size, rfl, ob, by rw [g1]; simpa using hw3, nb6 hj.nbD, by rw [g1, World.putObj_heap_other (by omega)]; exact hj.atD, fun d' hd' e => ?_⟩, ?_⟩
        · obtain ⟨D, h1, h2⟩ := hd.lt d' hd'
          rw [h1] at e
          have : D = w.heap.size := by injection e
          have := hs.below.size
          omega
        · refine hj.df.to ?_ (fun b hb h => Classical.byContradiction fun hn => nb6 hn h) (fun D h1 h2 h3 => ?_)
          · rw [g1]; simpa using hj.sat.below.size
          · have h4 := (hj.sat.keep h1 h2).trans h3
            rw [g1, World.putObj_heap_other (fun e => by rw [e, hj.atl] at h4; cases h4)]
            exact h4
  | _ => exact h.elim

def codeR (G : Glob) (P : Program) : Code → St → (Ex → St → Prop) → Prop
  | .skip, S, K => K .nrm S
  | .region _ ops draw, S, K => rgnW G P draw ops.toList S (K .nrm)
  | .seq x y, S, K => codeR G P x S (seqK (fun S => codeR G P y S K) K)
  | .cond c x y, S, K => evW G S c fun d => cndW d (codeR G P x S K) (codeR G P y S K)
  | .block id c, S, K => codeR G P c S (blkK id K)
  | .rangeFunc g ps assign body, S, K => evW G S g fun df => rngW G P df ps.toList (fun S K => codeW G P assign S K) (fun S K => codeW G P body S K) S K
  | .exit id, S, K => K (.ext id) S
  | .label _, S, K => K .nrm S
  | .ret, S, K => K .rt S
  | _, _, _ => False

structure KQR (b0 : Bas) (n : Nat) (K : Ex → St → Prop) (Q : Exit → Act → World → Prop) : Prop where
  nrm : ∀ {w0 S a w φ}, Wc b0 w0 → dfOk b0.w.heap.size w0 a.defers → K .nrm S → SatC w0 φ S a.tmps w → S.n = n → Q .normal a w
  ext : ∀ {w0 i S a w φ}, Wc b0 w0 → dfOk b0.w.heap.size w0 a.defers → K (.ext i) S → SatC w0 φ S a.tmps w → S.n = n → Q (.exit i) a w
  rt : ∀ {w0 S a w φ}, Wc b0 w0 → dfOk b0.w.heap.size w0 a.defers → K .rt S → SatC w0 φ S a.tmps w → S.n = n → Q .ret a w

theorem codeR_ok {b0 : Bas} (hbG : b0.G = G) : ∀ (c : Code) {w0 : Bas} {S : St} {a : Act} {w : World} {φ : Loc} {K : Ex → St → Prop} {Q : Exit → Act → World → Prop},
    Wc b0 w0 → dfOk b0.w.heap.size w0 a.defers → SatC w0 φ S a.tmps w → codeR G P c S K → KQR b0 S.n K Q → c.wpIn (fw none) N P Q a w := by
  intro c
  induction c with
  | skip => intro w0 S a w φ K Q hw hd hs h q; exact wpIn_skip (q.nrm hw hd h hs rfl)
  | label l => intro w0 S a w φ K Q hw hd hs h q; exact wpIn_label (q.nrm hw hd h hs rfl)
  | exit id => intro w0 S a w φ K Q hw hd hs h q; exact wpIn_exit (q.ext hw hd h hs rfl)
  | ret => intro w0 S a w φ K Q hw hd hs h q; exact wpIn_ret (q.rt hw hd h hs rfl)
  | region id ops draw =>
    intro w0 S a w φ K Q hw hd hs h q
    refine codeW_ok (r := none) (K := onlyN (K .nrm)) (hw.glob.trans hbG) (.region id ops draw) hs ?_ ⟨fun h1 hs' h2 h3 => q.nrm hw (by rw [h3]; exact hd) h1 hs' h2, fun h1 => h1.elim, fun h1 => h1.elim⟩
    exact h
  | seq x y ihx ihy =>
    intro w0 S a w φ K Q hw hd hs h q
    refine wpIn_seq (ihx hw hd hs h ⟨fun {w0' S' a' w' φ'} hw' hd' h1 hs' hn => ?_, fun hw' hd' h1 hs' hn => q.ext hw' hd' h1 hs' hn, fun hw' hd' h1 hs' hn => q.rt hw' hd' h1 hs' hn⟩)
    exact ihy hw' hd' hs' h1 (by rw [hn]; exact q)
  | cond c x y ihx ihy =>
    intro w0 S a w φ K Q hw hd hs h q
    obtain ⟨d, h, hdd⟩ := evW_ok (hw.glob.trans hbG) hs h
    cases d with
    | bool t => exact wpIn_cond_split hdd.bool_inv (fun e => ihx hw hd hs (h.1 e) q) (fun e => ihy hw hd hs (h.2 e) q)
    | _ => exact h.elim
  | block id c ih =>
    intro w0 S a w φ K Q hw hd hs h q
    refine wpIn_block (ih hw hd hs h ⟨fun hw' hd' h1 hs' hn => q.nrm hw' hd' h1 hs' hn, fun {w0' i S' a' w' φ'} hw' hd' h1 hs' hn => ?_, fun hw' hd' h1 hs' hn => q.rt hw' hd' h1 hs' hn⟩)
    simp only [Exit.inBlock]
    split
    · rename_i e; exact q.nrm hw' hd' (h1.1 e) hs' hn
    · rename_i e; exact q.ext hw' hd' (h1.2 e) hs' hn
  | rangeFunc g ps assign body =>
    intro w0 S a w φ K Q hw hd hs h q
    obtain ⟨df, h, hge⟩ := evW_ok (hw.glob.trans hbG) hs h
    exact rng_ok hbG hw hd hs hge h fun w0' S' a' w' φ' h1 h2 h3 h4 h5 => q.nrm h1 h2 h3 h4 h5
  | _ => intro w0 S a w φ K Q hw hd hs h q; exact h.elim

/-! ### A function's contract from such a body -/
/-- The marks go: their blocks are shut. -/
theorem leaves {fn : Func} {R : Ending → World → Prop} {tmps : Array Value} {m : Nat} : ∀ {ds : List Deferred} {w0 : Bas} {w : World} (W : World), dfOk m w0 ds → w.heap.size = W.heap.size → (∀ d ∈ ds, ∀ D, d.target = .collected D → w.heap[D]? = some (.deferred (some []))) →
    (∀ b, w0.base b → w.heap[b]? = W.heap[b]?) → (∀ b, b < m → w.heap[b]? = W.heap[b]?) → w.os = W.os → w.tape = W.tape → w.output = W.output →
    (∀ w', w'.heap.size = W.heap.size → (∀ b, w0.base b → w'.heap[b]? = W.heap[b]?) → (∀ b, b < m → w'.heap[b]? = W.heap[b]?) → w'.os = W.os → w'.tape = W.tape → w'.output = W.output → LeavesInM (fw none) 0 P fn tmps R [] .returning w') →
    LeavesInM (fw none) 0 P fn tmps R ds .returning w
  | [], w0, w, W, _, h1, _, h3, h3', h4, h5, h6, h => h w h1 h3 h3' h4 h5 h6
  | d :: r, w0, w, W, ⟨⟨D, hd, hm, hlt, hnb, hat, hne⟩, hr⟩, h1, h2, h3, h3', h4, h5, h6, h => by
    have hD := h2 d (by simp) D (by rw [hd])
    refine ⟨by simp, .inl ⟨D, _, by rw [hd], run_takeDeferred hD, ?_⟩⟩
    refine leaves W hr (by simpa using h1) (fun d' hd' D' e => ?_) (fun b hb => (World.putObj_heap_other (fun e => hnb (by rw [← e]; exact hb))).trans (h3 b hb)) (fun b hb => (World.putObj_heap_other (by omega)).trans (h3' b hb)) h4 h5 h6 h
    rw [World.putObj_heap_other (fun e' => hne d' hd' (by rw [e, e']))]
    exact h2 d' (by simp [hd']) D' e
end

section
variable {G : Glob} {P : Program}

def bodyR (G : Glob) (P : Program) (n : Nat) (rs : List ResultVar) (c : Code) (ds : List D) (k : St → List D → Prop) : Prop :=
  ds.length ≤ n ∧ wfL ds (codeR G P c ⟨n, 0, envF 0 ds, []⟩ (endK fun S => resLW P rs S fun ds => k S ds))

/-- Results that stand in slots. -/
def tmpR : List ResultVar → Bool
  | [] => true
  | .tmp _ :: r => tmpR r
  | _ => false
theorem resRun_tmp {tmps : Array Value} : ∀ {rs : List ResultVar} {w w' : World} {vs : List Value}, tmpR rs = true → (rs.mapM (resRun tmps)).run P w = .ok vs w → (rs.mapM (resRun tmps)).run P w' = .ok vs w'
  | [], w, w', vs, _, h => by simp at h ⊢; exact h
  | .tmp t :: r, w, w', vs, ht, h => by
    simp only [List.mapM_cons, resRun, Sem.run_bind, Sem.run_pure, Result.andThen_ok] at h ⊢
    cases e : (r.mapM (resRun tmps)).run P w with
    | ok us w2 =>
      rw [e] at h
      simp only [Result.andThen_ok, Sem.run_pure] at h
      injection h with h1 h2
      subst h2
      rw [resRun_tmp (w := w2) (w' := w') (show tmpR r = true from ht) e]
      simp only [Result.andThen_ok, Sem.run_pure, h1]
    | halt x w2 => rw [e] at h; cases h
  | .cell _ _ :: r, w, w', vs, ht, h => by cases ht

theorem bodyR_ok {f : FuncId} {fn : Func} {c : Code} {ds : List D} {k : St → List D → Prop} (hf : P.funcs[f]? = some fn) (hb : fn.body = some c) (htr : tmpR fn.results.toList = true) (h : bodyR G P fn.ntmps fn.results.toList c ds k)
    {b0 : Bas} (hG : GOk G b0) (hL : ∀ b, ¬ b0.lent b) {vs : List Value} (ha : FArgs b0.w (fun b => b0.base b ∧ b < b0.w.heap.size) vs ds) :
    Calls P f vs.toArray b0.w fun e w' => ∃ rvs S φ rds tmps w0 w, e = .returned (retV rvs) ∧ k S rds ∧ Wc b0 w0 ∧ SatC w0 φ S tmps w ∧ rvs.length = rds.length ∧ w'.heap.size = w.heap.size ∧ (∀ b, w0.base b → w'.heap[b]? = w.heap[b]?) ∧ Below b0.w.heap.size b0.w w' ∧
      ∀ (i : Nat) (v : Value) (d : D), rvs[i]? = some v → rds[i]? = some d → Rep φ w (FSx φ S.own w) v d := by
  have h2 := wfL_ok ha h.2
  have hsz : vs.length ≤ fn.ntmps := by rw [ha.1]; exact h.1
  refine callsIn_fw.1 (callsIn_of_wp_marks (F := fw none) (n := 0) hf hb trivial ?_)
  have wc0 : Wc b0 b0 := ⟨rfl, Below.refl _ _, fun b _ hb => hb, fun b hb => absurd hb (hL b)⟩
  refine codeR_ok hG c (φ := ⟨b0.loc, b0.base⟩) (w0 := b0) wc0 trivial ?_ h2 ?_
  · refine ⟨Bel.refl b0, by simp; omega, fun id c hc => by simp [lk] at hc, fun id id' c c' b hc => by simp [lk] at hc, fun s d hd => ?_, rfl, fun _ _ => rfl⟩
    obtain ⟨j, rfl, hj⟩ := envF_ok hd
    have hjl : j < vs.length := by rw [ha.1]; exact (List.getElem?_eq_some_iff.1 hj).1
    refine ⟨vs[j], ?_, ?_⟩
    · rw [Nat.zero_add, Array.getElem?_append, if_pos (by simpa using hjl)]
      simp [hjl]
    · exact .ro ((ha.2 j vs[j] d (by simp [hjl]) hj).mono (fun _ _ => rfl) fun b hb => ⟨hb.2, fun id c hc => by simp [lk] at hc, hb.1⟩)
  · have fin : ∀ {w0 : Bas} {S : St} {a : Act} {w : World} {φ : Loc}, Wc b0 w0 → dfOk b0.w.heap.size w0 a.defers → resLW P fn.results.toList S (fun ds => k S ds) → SatC w0 φ S a.tmps w → LeavesInM (fw none) 0 P fn a.tmps (fun e w' => ∃ rvs S φ rds tmps w0 w, e = .returned (retV rvs) ∧ k S rds ∧ Wc b0 w0 ∧ SatC w0 φ S tmps w ∧ rvs.length = rds.length ∧ w'.heap.size = w.heap.size ∧ (∀ b, w0.base b → w'.heap[b]? = w.heap[b]?) ∧ Below b0.w.heap.size b0.w w' ∧
      ∀ (i : Nat) (v : Value) (d : D), rvs[i]? = some v → rds[i]? = some d → Rep φ w (FSx φ S.own w) v d) a.defers .returning w := by
      intro w0 S a w φ hw hd h hs
      obtain ⟨rvs, rds, hrun, hk, hl, _, hr⟩ := resLW_ok hs h
      refine leaves w hd rfl (fun d hdd D e => ?_) (fun _ _ => rfl) (fun _ _ => rfl) rfl rfl rfl fun w' h1 h2 h2' h3 h4 h5 => ?_
      · have : ∀ {ds : List Deferred}, dfOk b0.w.heap.size w0 ds → d ∈ ds → w.heap[D]? = some (.deferred (some [])) := by
          intro ds
          induction ds with
          | nil => intro _ h; simp at h
          | cons x r ih =>
            rintro ⟨⟨D', q1, _, q2, q3, q4, _⟩, hr⟩ hm
            rcases List.mem_cons.1 hm with rfl | hm
            · rw [q1] at e
              obtain rfl : D' = D := by injection e
              rw [hs.keep q2 q3]; exact q4
            · exact ih hr hm
        exact this hd hdd
      · have hrun' := run_results (fn := fn) (resRun_tmp (w' := w') htr hrun)
        have hB := hw.now hs.below
        refine ⟨_, hrun', rvs, S, φ, rds, a.tmps, w0, w, rfl, hk, hw, hs, hl, h1, h2, ⟨h3.trans hB.os, h4.trans hB.tape, h5.trans hB.output, by rw [h1]; exact hB.size, fun k hk => (h2' k hk).trans (hB.block k hk)⟩, hr⟩
    refine ⟨fun hw hd h1 hs hn => ?_, fun hw hd h1 hs hn => h1.elim, fun hw hd h1 hs hn => ?_⟩
    · exact fin hw hd h1 hs
    · exact fin hw hd h1 hs
end
end Go.Abs
