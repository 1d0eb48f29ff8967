/-
  AN ABSTRACT WALK, seventeenth text: code; loops; a function's contract from its body.
-/
import Derived.LoopN
import Derived.LoopNIn
import Derived.Scope
import Derived.Test.YtffcdocmabefiaaAbs16e
namespace Go.Abs
open Go.RowKit (Below)

inductive Ex where
  | nrm
  | ext (id : Nat)
  | rt

def seqK (n : St → Prop) (K : Ex → St → Prop) : Ex → St → Prop
  | .nrm, S => n S
  | .ext i, S => K (.ext i) S
  | .rt, S => K .rt S
def blkK (id : Nat) (K : Ex → St → Prop) : Ex → St → Prop
  | .nrm, S => K .nrm S
  | .ext i, S => (i = id → K .nrm S) ∧ (¬ i = id → K (.ext i) S)
  | .rt, S => K .rt S
def cndW (d : D) (A B : Prop) : Prop := match d with | .bool t => (t = true → A) ∧ (t = false → B) | _ => False

/-! ### Loops -/
/-- What S knows of T's slots and blocks is what T says. -/
def wkW (S T : St) : Prop := T.n = S.n ∧ wkE S.env T.env ∧ wkO S.own T.own

/-- A nil slice in a slot is from here on a slice of the call's own, with no elements. -/
def adoptW : List (Nat × Nat) → St → (St → Prop) → Prop
  | [], S, k => k S
  | (s, sz) :: r, S, k => s < S.n ∧ lkW s S.env fun d => d = .nils ∧ nmW S.nx S.own (adoptW r ⟨S.n, S.nx + 1, (s, .osl S.nx sz 0) :: purge S.nx S.env, (S.nx, []) :: S.own⟩ k)

def lpK {α : Type} (R : α → Prop) (m : α → Nat) (I : α → St) (x : α) (K : Ex → St → Prop) : Ex → St → Prop
  | .nrm, S => ∃ y, R y ∧ m y < m x ∧ wkW S (I y)
  | .ext i, S => K (.ext i) S
  | .rt, S => K .rt S
def loopW (S : St) (B : St → (Ex → St → Prop) → Prop) (K : Ex → St → Prop) : Prop :=
  ∃ (ads : List (Nat × Nat)) (α : Type) (I : α → St) (R : α → Prop) (m : α → Nat), (adoptW ads S fun S' => ∃ x, R x ∧ wkW S' (I x)) ∧ ∀ x, R x → B (I x) (lpK R m I x K)

theorem wkW_ok {w0 : Bas} {w : World} {φ : Loc} {S T : St} {tmps : Array Value} (hs : SatC w0 φ S tmps w) (h : wkW S T) : SatC w0 φ T tmps w := by
  obtain ⟨hn, he, ho⟩ := h
  have ho' := wkO_ok ho
  have hF : ∀ b, FSx φ S.own w b → FSx φ T.own w b := fun b hb => ⟨hb.1, fun id c hc => hb.2 id c (ho' id c hc), hb.3⟩
  refine ⟨hs.below, by rw [hn]; exact hs.size, fun id c hc => ?_, fun id id' c c' b h1 h2 => hs.inj id id' c c' b (ho' _ _ h1) (ho' _ _ h2), fun s d hd => ?_, hs.base, hs.pin⟩
  · obtain ⟨h1, h2⟩ := hs.own id c (ho' _ _ hc)
    exact ⟨h1.mono (fun _ _ => rfl) hF fun _ _ => rfl, h2⟩
  · obtain ⟨v, hv, hr⟩ := hs.env s d (wkE_ok he s d hd)
    exact ⟨v, hv, hr.mono (fun _ _ => rfl) hF⟩

theorem adoptW_ok {w0 : Bas} {w : World} {tmps : Array Value} : ∀ {l : List (Nat × Nat)} {S : St} {φ : Loc} {k : St → Prop}, SatC w0 φ S tmps w → adoptW l S k → ∃ φ' S', k S' ∧ SatC w0 φ' S' tmps w ∧ S'.n = S.n
  | [], S, φ, k, hs, h => ⟨φ, S, h, hs, rfl⟩
  | (s, sz) :: r, S, φ, k, hs, h => by
    obtain ⟨hsn, h⟩ := h
    obtain ⟨d, hd, rfl, h⟩ := lkW_ok h
    obtain ⟨hnm, h⟩ := nmW_ok h
    have hv := hs.virt hnm
    obtain ⟨v, hvs, hr⟩ := hs.env s _ hd
    have e : v = .slice none 0 0 := by cases hr with | ro hr => cases hr; rfl
    have h2 := hv.put (s := s) (v := v) (d := .osl S.nx sz 0) hsn (by rw [e]; exact .osl0 (by rw [upd_same]))
    have e3 : tmps.setIfInBounds s v = tmps := by
      apply Array.ext_getElem?
      intro i
      rw [Array.getElem?_setIfInBounds]
      split
      · rename_i e; subst e; split
        · exact hvs.symm
        · rename_i hlt; simp at hlt; rw [Array.getElem?_eq_none hlt]
      · rfl
    rw [e3] at h2
    obtain ⟨φ', S', h3, h4, h5⟩ := adoptW_ok h2 h
    exact ⟨φ', S', h3, h4, h5⟩

/-! ### Code -/
/-- A region that draws its order: only operations that read; or operations that turn nothing of the call's own, in whatever order the edges allow. -/
def rgnT (G : Glob) (P : Program) (l : List Oper) (S : St) (k : St → Prop) : Prop :=
  (Region.lexB .any l.toArray = true ∧ l.all (fun o => quiet o.op) = true ∧ opsW G P l l S k) ∨ (drwB l (preN l) = true ∧ drwW G P l S.n S.nx S.own l S.env k) ∨
    (∃ m, m ≤ l.length ∧ (l.take m).all (fun o => stb o.op) = true ∧ drwB l m = true ∧ drwW G P l S.n S.nx S.own (l.take m) S.env fun S => opsW G P l (l.drop m) S k) ∨
    (∃ m hid, m ≤ l.length ∧ drwB l m = true ∧ rgnX G P l m hid S k) ∨
    ∃ m tc sl bs E0 EB ownA, m ≤ l.length ∧ drcB l m bs sl = true ∧ rgnC G P l m tc sl bs E0 EB ownA S k
def rgnW (G : Glob) (P : Program) (draw : Bool) (l : List Oper) (S : St) (k : St → Prop) : Prop :=
  match draw with
  | false => opsW G P l l S k
  | true => P.follows .mixedOrders = true ∧ rgnT G P l S k
def codeW (G : Glob) (P : Program) : Code → St → (Ex → St → Prop) → Prop
  | .skip, S, K => K .nrm S
  | .region _ ops draw, S, K => rgnW G P draw ops.toList S (K .nrm)
  | .seq x y, S, K => codeW G P x S (seqK (fun S => codeW G P y S K) K)
  | .cond c x y, S, K => evW G S c fun d => cndW d (codeW G P x S K) (codeW G P y S K)
  | .block id c, S, K => codeW G P c S (blkK id K)
  | .loop c, S, K => loopW S (fun S K => codeW G P c S K) K
  | .exit id, S, K => K (.ext id) S
  | .scope c, S, K => codeW G P c S K
  | .label _, S, K => K .nrm S
  | .ret, S, K => K .rt S
  | _, _, _ => False

/-- What the text's end asks is what the machine's does. -/
structure KQ (w0 : Bas) (n : Nat) (df : List Deferred) (K : Ex → St → Prop) (Q : Exit → Act → World → Prop) : Prop where
  nrm : ∀ {S a w φ}, K .nrm S → SatC w0 φ S a.tmps w → S.n = n → a.defers = df → Q .normal a w
  ext : ∀ {i S a w φ}, K (.ext i) S → SatC w0 φ S a.tmps w → S.n = n → a.defers = df → Q (.exit i) a w
  rt : ∀ {S a w φ}, K .rt S → SatC w0 φ S a.tmps w → S.n = n → a.defers = df → Q .ret a w

theorem wpIn_scope_straight {F : Fence} {n : Nat} {P : Program} {Q : Exit → Act → World → Prop} {a : Act} {w : World} {c : Code} (h : c.wpIn F n P (Exit.noGoto Q) a w) : (Code.scope c).wpIn F n P Q a w := by
  intro b k cs hro hb hr
  have h0 : (lone (b.atR a (.code (.scope c) :: k)) cs w).fenced P F := fenced_calm hb hr rfl
  have s1 : ∀ {k : List Item} {w : World}, step P (lone (b.atR a (.code (.scope c) :: k)) cs w) = .next (lone (b.atR a (.code c :: .inScope c :: k)) cs w) := step_lone_go (by simp [stepG, stepG.exec, Frame.atR])
  have s2 : ∀ {a : Act} {k : List Item} {w : World}, step P (lone (b.atR a (.inScope c :: k)) cs w) = .next (lone (b.atR a k) cs w) := step_lone_go (by simp [stepG, stepG.exec, Frame.atR])
  obtain ⟨e, a₁, w₁, hq, harr⟩ := h b (.inScope c :: k) cs hro hb hr
  cases e with
  | normal => exact ⟨.normal, a₁, w₁, hq, .head h0 s1 (StepsIn.trans harr (.one (fenced_calm hb hr rfl) s2))⟩
  | exit id =>
    have hx : exitTo id (.inScope c :: k) = exitTo id k := by simp [exitTo]
    exact ⟨_, a₁, w₁, hq, fun k' hk => .head h0 s1 (harr.1 k' (by rw [hx]; exact hk)),
      fun hr' hk => let ⟨k₁, h1, h2⟩ := harr.2 hr' (by rw [hx]; exact hk); ⟨k₁, h1, .head h0 s1 h2⟩⟩
  | goto l => exact hq.elim
  | ret => exact ⟨_, a₁, w₁, hq, .of_steps (.one h0 s1) harr⟩
  | panic ch => exact ⟨_, a₁, w₁, hq, .of_steps (.one h0 s1) harr⟩
  | outgrown => exact ⟨_, a₁, w₁, hq, .of_steps (.one h0 s1) harr⟩
theorem nd_of_quiet {op : Op} (h : quiet op = true) (c : Call) : op ≠ .defer c := by rintro rfl; cases h
theorem wpIn_of_still {r : Option Nat} {N : Nat} {P : Program} {o : Oper} {a : Act} {w : World} {K : Act → Prop} {K' : Act → World → Prop} {Q' : Exit → Act → World → Prop} (hd : ∀ c, o.op ≠ .defer c) (h : ∀ a, K a → K' a w) (hh : o.still P a w K) : o.wpIn (fw r) N P a w K' Q' := by
  unfold Oper.still at hh
  refine ⟨fun _ _ => trivial, ?_⟩
  rw [Oper.semAt_eq _ _ _ hd]
  generalize (execOp a.eval o).run P w = r at *
  cases r with
  | ok n w' =>
    cases n <;> simp only [Oper.stillUpon] at hh <;> simp only [Oper.uponIn]
    case enter f args =>
      obtain ⟨rfl, v, hc, hn⟩ := hh
      refine ⟨fun h => by simp [fw] at h, CallsIn.mono (callsIn_fw.2 hc) ?_⟩
      rintro e w'' ⟨he, hw⟩; subst he; subst hw; exact h _ hn
    all_goals (obtain ⟨rfl, h2⟩ := hh; exact h _ h2)
  | halt x w' => simp only [Oper.stillUpon] at hh
theorem anyIn_of_still {r : Option Nat} {N : Nat} {P : Program} {md : Region.Mode} {ops : Array Oper} {w : World} {Q : Act → Prop} {Q' : Exit → Act → World → Prop} (hd : ∀ (i : Nat) o, ops[i]? = some o → ∀ c, o.op ≠ .defer c) (hQ : ∀ a, Q a → Q' .normal a w) : ∀ (fuel : Nat) (listed : Array Bool) (a : Act),
    wpAnyS P md ops w Q fuel listed a → wpAnyIn (fw r) N P md ops Q' fuel listed a w
  | 0, _, _, h => ⟨h.1, hQ _ h.2⟩
  | fuel + 1, _, _, h => ⟨fun h0 => hQ _ (h.1 h0), fun i hi => by
      have hh := h.2 i hi
      unfold stOp at hh
      unfold wpOpIn
      split
      · rename_i ho; simp only [ho] at hh; exact anyIn_of_still hd hQ fuel _ _ hh
      · rename_i o ho
        simp only [ho] at hh
        split
        · rename_i hw; simp only [hw, if_true] at hh; exact wpIn_of_still (hd i o ho) (fun a' => anyIn_of_still hd hQ fuel _ a') hh
        · rename_i hw; simp only [hw] at hh; exact ⟨fun _ _ => trivial, anyIn_of_still hd hQ fuel _ _ hh⟩⟩
theorem region_still_fw {r : Option Nat} {N : Nat} {P : Program} {id : Nat} {ops : Array Oper} {Q : Exit → Act → World → Prop} {a : Act} {w : World} (hm : P.follows .mixedOrders = true) (hB : Region.lexB .any ops = true) (hq : ∀ o ∈ ops.toList, quiet o.op = true)
    (h : wpStill P ops { w with drawn := w.drawn + 1 } (fun a' => Q .normal a' { w with drawn := w.drawn + 1 }) ops.toList a) : (Code.region id ops true).wpIn (fw r) N P Q a w := by
  simp only [Region.lexB, Bool.and_eq_true] at hB
  refine wpIn_region_any hm (anyIn_of_still (Q := fun a' => Q .normal a' { w with drawn := w.drawn + 1 }) (fun i o ho => nd_of_quiet (hq o (by obtain ⟨h1, rfl⟩ := Array.getElem?_eq_some_iff.1 ho; simp))) (fun _ h => h) _ _ _ ?_)
  have := wpAnyS_lex (md := .any) hB.1 ops.toList 0 (Array.replicate ops.size false) a (by simp) (by simpa using hB.2) h
  simpa using this

theorem codeW_ok {r : Option Nat} {N : Nat} {G : Glob} {P : Program} {w0 : Bas} (hG : GOk G w0) : ∀ (c : Code) {S : St} {a : Act} {w : World} {φ : Loc} {K : Ex → St → Prop} {Q : Exit → Act → World → Prop},
    SatC w0 φ S a.tmps w → codeW G P c S K → KQ w0 S.n a.defers K Q → c.wpIn (fw r) N P Q a w := by
  intro c
  induction c with
  | skip => intro S a w φ K Q hs h q; exact wpIn_skip (q.nrm h hs rfl rfl)
  | label l => intro S a w φ K Q hs h q; exact wpIn_label (q.nrm h hs rfl rfl)
  | exit id => intro S a w φ K Q hs h q; exact wpIn_exit (q.ext h hs rfl rfl)
  | ret => intro S a w φ K Q hs h q; exact wpIn_ret (q.rt h hs rfl rfl)
  | region id ops draw =>
    intro S a w φ K Q hs h q
    cases draw with
    | false =>
      refine wpIn_region_list ?_
      have := opsW_ok (r := r) (N := N) (Q := Q) hG hs h fun S' a' w' φ' hk hs' hn hd => q.nrm hk hs' hn hd
      simpa using this
    | true =>
      obtain ⟨hm, ⟨hB, hq, h⟩ | ⟨hB, h⟩ | ⟨m, h1, h2, h3, h⟩ | ⟨m, hid, h1, h2, h⟩ | ⟨m, tc, sl, bs, E0, EB, ownA, h1, h2, h⟩⟩ := h
      · have hB : Region.lexB .any ops = true := by simpa using hB
        refine region_still_fw hm hB (List.all_eq_true.1 hq) ?_
        have := opsQ_ok (w := { w with drawn := w.drawn + 1 }) (Q := fun a' => Q .normal a' { w with drawn := w.drawn + 1 }) hG hs.drew hq h fun S' a' hk hs' hn hd => q.nrm hk hs' hn hd
        simpa using this
      · have := drw_ok (r := r) (N := N) (Q := Q) (id := id) hG hm hB hs h fun S' a' w' φ' hk hs' hn hd => q.nrm hk hs' hn hd
        simpa using this
      · have := drw_ok2 (r := r) (N := N) (Q := Q) (id := id) hG hm h1 h2 h3 hs h fun S' a' w' φ' hk hs' hn hd => q.nrm hk hs' hn hd
        simpa using this
      · have := drx_ok (r := r) (N := N) (Q := Q) (id := id) hG hm h1 h2 hs h fun S' a' w' φ' hk hs' hn hd => q.nrm hk hs' hn hd
        simpa using this
      · have := drc_ok (r := r) (N := N) (Q := Q) (id := id) hG hm h1 h2 hs h fun S' a' w' φ' hk hs' hn hd => q.nrm hk hs' hn hd
        simpa using this
  | seq x y ihx ihy =>
    intro S a w φ K Q hs h q
    refine wpIn_seq (ihx hs h ⟨fun {S' a' w' φ'} h1 hs' hn hd => ?_, fun h1 hs' hn hd => q.ext h1 hs' hn hd, fun h1 hs' hn hd => q.rt h1 hs' hn hd⟩)
    exact ihy hs' h1 (by rw [hn, hd]; exact q)
  | cond c x y ihx ihy =>
    intro S a w φ K Q hs h q
    obtain ⟨d, h, hd⟩ := evW_ok hG hs h
    cases d with
    | bool t => exact wpIn_cond_split hd.bool_inv (fun e => ihx hs (h.1 e) q) (fun e => ihy hs (h.2 e) q)
    | _ => exact h.elim
  | block id c ih =>
    intro S a w φ K Q hs h q
    refine wpIn_block (ih hs h ⟨fun h1 hs' hn hd => q.nrm h1 hs' hn hd, fun {i S' a' w' φ'} h1 hs' hn hd => ?_, fun h1 hs' hn hd => q.rt h1 hs' hn hd⟩)
    simp only [Exit.inBlock]
    split
    · rename_i e; exact q.nrm (h1.1 e) hs' hn hd
    · rename_i e; exact q.ext (h1.2 e) hs' hn hd
  | scope c ih =>
    intro S a w φ K Q hs h q
    exact wpIn_scope_straight (ih hs h ⟨fun h1 hs' hn hd => q.nrm h1 hs' hn hd, fun h1 hs' hn hd => q.ext h1 hs' hn hd, fun h1 hs' hn hd => q.rt h1 hs' hn hd⟩)
  | loop c ih =>
    intro S a w φ K Q hs h q
    obtain ⟨ads, α, I, R, m, h0, hB⟩ := h
    obtain ⟨φ', S', ⟨x, hR, hwk⟩, hs', hn'⟩ := adoptW_ok hs h0
    have key : ∀ n (x : α) a' w' φ', m x < n → R x → SatC w0 φ' (I x) a'.tmps w' → (I x).n = S.n → a'.defers = a.defers → Code.roundsIn (fw r) N P c Q n a' w' := by
      intro n
      induction n with
      | zero => intro x a' w' φ' hm; omega
      | succ n ihn =>
        intro x a' w' φ' hm hR hs1 hn1 hd1
        rw [roundsIn_succ]
        refine ih hs1 (hB x hR) ⟨fun {S2 a2 w2 φ2} h1 hs2 hn2 hd2 => ?_, fun h1 hs2 hn2 hd2 => q.ext h1 hs2 (by rw [hn2, hn1]) (by rw [hd2, hd1]), fun h1 hs2 hn2 hd2 => q.rt h1 hs2 (by rw [hn2, hn1]) (by rw [hd2, hd1])⟩
        obtain ⟨y, hy, hmy, hwk⟩ := h1
        exact ihn y a2 w2 φ2 (by omega) hy (wkW_ok hs2 hwk) (by rw [hwk.1, hn2, hn1]) (by rw [hd2, hd1])
    exact wpIn_loop_rounds (m x + 1) (key _ x a w φ' (by omega) hR (wkW_ok hs' hwk) (by rw [hwk.1, hn']) rfl)
  | _ => intro S a w φ K Q hs h q; exact h.elim

#print axioms codeW_ok
end Go.Abs
