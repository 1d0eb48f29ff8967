/-
  AN ABSTRACT WALK, twenty-fifth text: ranges over functions: an iterator's contract (what it yields, in which order), out of its body; the loop that goes over it, whose rounds are walked in the caller's own state.
-/
import Derived.RangeFuncIn
import Derived.RangeFuncRecord
import Derived.RangeFuncLeaves
import Derived.Test.YtdjfnipabekkaaaAbs23
namespace Go.Abs
open Go.RowKit (Below)

/-! ### A call goes on from another world -/
def ownB (φ : Loc) (own : List (Nat × List D)) (b : Nat) : Prop := ∃ id c, lk id own = some c ∧ (φ id).1 = some b

theorem SatC.rebase {G : Glob} {w0 : Bas} {w w' : World} {φ : Loc} {S : St} {tmps : Array Value} (hG : GOk G w0) (hs : SatC w0 φ S tmps w) (hsz : w.heap.size ≤ w'.heap.size)
    (hun : ∀ b, b < w.heap.size → φ.base b → w'.heap[b]? = w.heap[b]?) (gh' : Nat → Nat → Option Value) (S' : St) (tmps' : Array Value) (hn : tmps'.size = S'.n)
    (hown : ∀ id c, lk id S'.own = some c → (lk id S.own = some c ∧ gh' id = φ.base.gh id) ∨ (φ id = (none, 0) ∧ ∀ (i : Nat) (d : D), c[i]? = some d → ∃ v, gh' id i = some v ∧ Rep φ w (FSx φ S.own w) v d))
    (henv : ∀ s d, lk s S'.env = some d → ∃ v, tmps'[s]? = some v ∧ Rep φ w (FSx φ S.own w) v d) :
    ∃ w1 φ1, SatC w1 φ1 S' tmps' w' ∧ w1.w = w' ∧ w1.G = G ∧ w1.base.gh = gh' ∧ (∀ b, w1.base b ↔ φ.base b ∧ (b < w.heap.size ∨ w'.heap.size ≤ b)) ∧ (∀ b, w1.lent b ↔ ownB φ S'.own b) ∧ ∀ i, φ1 i = φ i := by
  have hbase : φ.base = w0.base := hs.base
  have hsub : ∀ {b}, ownB φ S'.own b → ownB φ S.own b := by
    rintro b ⟨id, c, hc, hb⟩
    rcases hown id c hc with ⟨h, _⟩ | ⟨h, _⟩
    · exact ⟨id, c, h, hb⟩
    · rw [h] at hb; cases hb
  have hown1 : ∀ {b}, ownB φ S'.own b → φ.base b ∧ b < w.heap.size := by
    intro b hb; obtain ⟨id, c, hc, hb⟩ := hsub hb; exact own_FL hs hc hb
  let B : BaseT := ⟨fun b => φ.base b ∧ (b < w.heap.size ∨ w'.heap.size ≤ b), gh'⟩
  have hF : ∀ b, FSx φ S.own w b → B b := fun b hb => ⟨hb.3, .inl hb.1⟩
  let w1 : Bas := ⟨w', B, G, fun b hb => ⟨by rw [hbase]; exact w0.new b (Nat.le_trans hs.below.size (Nat.le_trans hsz hb)), .inr hb⟩, ownB φ S'.own, w0.loc, w0.loc0,
    fun b hb => ⟨⟨(hown1 hb).1, .inl (hown1 hb).2⟩, Nat.lt_of_lt_of_le (hown1 hb).2 hsz⟩,
    fun g cs hg => (glob_ok hG hs hg).mono (fun b hb => hun b hb.1 hb.3) fun b hb => ⟨hF b hb, Nat.lt_of_lt_of_le hb.1 hsz, fun ho => by obtain ⟨id, c, hc, e⟩ := hsub ho; exact hb.2 id c hc e⟩⟩
  let φ1 : Loc := ⟨φ.at_, B⟩
  have hat : ∀ i, φ1 i = φ i := fun _ => rfl
  have hFS : ∀ b, FSx φ S.own w b → FSx φ1 S'.own w' b := fun b hb => ⟨Nat.lt_of_lt_of_le hb.1 hsz, fun id c hc e => by
      obtain ⟨id', c', hc', e'⟩ := hsub ⟨id, c, hc, e⟩; exact hb.2 id' c' hc' e', hF b hb⟩
  have old : ∀ {v d}, Rep φ w (FSx φ S.own w) v d → Rep φ1 w' (FSx φ1 S'.own w') v d := fun h => (h.at hat).mono (fun b hb => hun b hb.1 hb.3) hFS
  refine ⟨w1, φ1, ⟨Bel.refl w1, hn, fun id c hc => ?_, fun id id' c c' b hc hc' hb hb' => ?_, fun s d hd => ?_, rfl, fun i hi => hs.pin i hi⟩, rfl, rfl, rfl, fun b => Iff.rfl, fun b => Iff.rfl, hat⟩
  · refine ⟨?_, fun b hb => .inr ⟨id, c, hc, hb⟩⟩
    unfold OwnOk
    rw [hat]
    rcases hown id c hc with ⟨h, hg⟩ | ⟨h, hg⟩
    · have h1 := (hs.own id c h).1
      unfold OwnOk at h1
      revert h1
      cases e : (φ id).1 with
      | none =>
        rintro ⟨a1, a2⟩
        refine ⟨fun i d hd => ?_, a2⟩
        obtain ⟨v, b1, b2⟩ := a1 i d hd
        exact ⟨v, by show gh' id i = _; rw [hg]; exact b1, old b2⟩
      | some b =>
        rintro ⟨arr, T, fz, a1, a2, a3, a4, a5⟩
        have := own_FL hs h e
        exact ⟨arr, T, fz, (hun b this.2 this.1).trans a1, a2, a3, a4, fun i v d hv hd => ⟨old (a5 i v d hv hd).1, (a5 i v d hv hd).2⟩⟩
    · rw [h]
      exact ⟨fun i d hd => by obtain ⟨v, b1, b2⟩ := hg i d hd; exact ⟨v, b1, old b2⟩, rfl⟩
  · rcases hown id c hc with ⟨h, _⟩ | ⟨h, _⟩
    · rcases hown id' c' hc' with ⟨h', _⟩ | ⟨h', _⟩
      · exact hs.inj id id' c c' b h h' hb hb'
      · rw [hat, h'] at hb'; cases hb'
    · rw [hat, h] at hb; cases hb
  · obtain ⟨v, hv, hr⟩ := henv s d hd
    exact ⟨v, hv, old hr⟩

/-! ### An iterator's contract -/
/-- What an iterator may rely on of the loop that goes over it (its record: block l): J says how far it has come. -/
structure Itr (P : Program) (l : Nat) (ys : List (List D)) (J : Nat → (Nat → Prop) → World → Prop) : Prop where
  grow : ∀ i B W W', J i B W → Below W.heap.size W W' → J i (fun b => B b ∨ (W.heap.size ≤ b ∧ b < W'.heap.size)) W'
  less : ∀ i (B B' : Nat → Prop) W, (∀ b, B' b → B b) → J i B W → J i B' W
  round : ∀ i B W (vs : List Value) ds, ys[i]? = some ds → J i B W → FArgs W (fun _ => False) vs ds →
    ∃ fn tmps assign body, (Instr.yield l vs.toArray).run P W = .ok (.round l fn tmps assign body) W ∧
      ∀ n, RoundIn (fw none) n P l fn tmps assign body W fun e W' => e = .returned (.bool true) ∧ J (i + 1) B W' ∧ W.heap.size ≤ W'.heap.size ∧ ∀ b, b < W.heap.size → B b → W'.heap[b]? = W.heap[b]?
def YieldsC (G : Glob) (P : Program) (f : FuncId) (caps : List D) (ys : List (List D)) : Prop :=
  Callable P f ∧ ∀ (b0 : Bas) (vs : List Value) (l : Nat) (J : Nat → (Nat → Prop) → World → Prop), b0.G = G → (∀ b, ¬ b0.lent b) → FArgs b0.w (fun b => b0.base b ∧ b < b0.w.heap.size) vs caps → Itr P l ys J →
    J 0 (fun b => b0.base b ∧ b < b0.w.heap.size) b0.w → Calls P f (Value.func (.yield l) #[] #[] :: vs).toArray b0.w fun e w' => (∃ v, e = .returned v) ∧ ∃ B, J ys.length B w'

/-! ### The iterator's body -/
/-- A struct that may hold blocks of the call's own, but holds none. -/
def ogD : D → D
  | .oag cs => .agg cs
  | d => d
def yldW (ys : List (List D)) (ds : List D) (S : St) (k : D → St → Prop) : Prop :=
  (∀ d ∈ ds.map ogD, flA d) ∧ lkoW 1000000 S.own fun c => ∃ (i : Nat) (T : List (Nat × D)), c = [.int .i64 i] ∧ ys[i]? = some (ds.map ogD) ∧ (i : Int) + 1 ≤ 9223372036854775807 ∧ wkE S.env T ∧ k (.bool true) ⟨S.n, S.nx, T, [(1000000, [.int .i64 ((i + 1 : Nat) : Int)])]⟩
def callY (G : Glob) (P : Program) (l : Nat) (ys : List (List D)) (df : D) (ds : List D) (S : St) (k : D → St → Prop) : Prop :=
  match df with
  | .yld l' => l' = l ∧ yldW ys ds S k
  | df => funW G P df ds S k
def opY (G : Glob) (P : Program) (l : Nat) (ys : List (List D)) (op : Op) (S : St) (k : D → St → Prop) : Prop :=
  match op with
  | .call ⟨.value f, args, _⟩ => evW G S f fun df => evAW G S args fun ds => callY G P l ys df ds S k
  | op => opW G P op S k
def opsY (G : Glob) (P : Program) (l : Nat) (ys : List (List D)) (ops : List Oper) : List Oper → St → (St → Prop) → Prop
  | [], S, k => k S
  | o :: rest, S, k => grdW ops o.guard S (fun S => opY G P l ys o.op S fun d S => putW o.dst d S fun S => opsY G P l ys ops rest S k) fun S => putW o.dst (.tup []) S fun S => opsY G P l ys ops rest S k
def rgnYT (G : Glob) (P : Program) (l : Nat) (ys : List (List D)) (ops : List Oper) (S : St) (k : St → Prop) : Prop :=
  rgnT G P ops S k ∨ ∃ m, m < ops.length ∧ (ops.take m).all (fun o => stb o.op) = true ∧ drwB ops m = true ∧ drwW G P ops S.n S.nx S.own (ops.take m) S.env fun S => opsY G P l ys ops (ops.drop m) S k
def rgnY (G : Glob) (P : Program) (l : Nat) (ys : List (List D)) (draw : Bool) (ops : List Oper) (S : St) (k : St → Prop) : Prop :=
  match draw with
  | false => opsY G P l ys ops ops S k
  | true => P.follows .mixedOrders = true ∧ rgnYT G P l ys ops S k
def codeY (G : Glob) (P : Program) (l : Nat) (ys : List (List D)) : Code → St → (Ex → St → Prop) → Prop
  | .skip, S, K => K .nrm S
  | .region _ ops draw, S, K => rgnY G P l ys draw ops.toList S (K .nrm)
  | .seq x y, S, K => codeY G P l ys x S (seqK (fun S => codeY G P l ys y S K) K)
  | .cond c x y, S, K => evW G S c fun d => cndW d (codeY G P l ys x S K) (codeY G P l ys y S K)
  | .block id c, S, K => codeY G P l ys c S (blkK id K)
  | .loop c, S, K => loopW S (fun S K => codeY G P l ys c S K) K
  | .exit id, S, K => K (.ext id) S
  | .label _, S, K => K .nrm S
  | .ret, S, K => K .rt S
  | _, _, _ => False

structure WY (G : Glob) (J : Nat → (Nat → Prop) → World → Prop) (w0 : Bas) : Prop where
  glob : w0.G = G
  lent : ∀ b, ¬ w0.lent b
  at_ : ∃ i : Nat, w0.base.gh 1000000 0 = some (.int .i64 i) ∧ J i (fun b => w0.base b ∧ b < w0.w.heap.size) w0.w

theorem lkW_mono {t : Nat} {k k' : D → Prop} (h : ∀ d, k d → k' d) : ∀ {env : List (Nat × D)}, lkW t env k → lkW t env k'
  | [], h1 => h1
  | (s, d) :: r, h1 => by
    rw [lkW_cons] at h1 ⊢
    split
    · rename_i e; rw [if_pos e] at h1; exact h _ h1
    · rename_i e; rw [if_neg e] at h1; exact lkW_mono h h1
theorem glW_mono {g : Nat} {k k' : D → Prop} (h : ∀ d, k d → k' d) : ∀ {G : Glob}, glW g G k → glW g G k'
  | [], h1 => h _ h1
  | (s, cs) :: r, h1 => by
    rw [glW_cons] at h1 ⊢
    split
    · rename_i e; rw [if_pos e] at h1; exact h _ h1
    · rename_i e; rw [if_neg e] at h1; exact glW_mono h h1
theorem evW_mono {G : Glob} {S : St} {x : Operand} {k k' : D → Prop} (h : ∀ d, k d → k' d) (h1 : evW G S x k) : evW G S x k' := by
  cases x with
  | tmp t => exact lkW_mono h h1
  | const v =>
    have h1 : constW v k := h1
    show constW v k'
    unfold constW at h1 ⊢
    split at h1
    · exact h _ h1
    · exact ⟨h1.1, h _ h1.2⟩
    · exact ⟨h1.1, h _ h1.2⟩
    · exact h _ h1
    · exact ⟨h1.1, h _ h1.2⟩
    · exact h _ h1
  | global g => exact glW_mono h h1
  | func f => exact h _ h1
theorem evW_exd {G : Glob} {S : St} {x : Operand} {k : D → Prop} (h : evW G S x k) : ∃ d, evW G S x (fun e => e = d) ∧ k d := by
  cases x with
  | tmp t =>
    have h : lkW t S.env k := h
    obtain ⟨d, hd, hk⟩ := lkW_ok h
    refine ⟨d, ?_, hk⟩
    show lkW t S.env _
    have : ∀ {env : List (Nat × D)}, lk t env = some d → lkW t env (fun e => e = d) := by
      intro env
      induction env with
      | nil => intro h; simp [lk] at h
      | cons p r ih =>
        obtain ⟨s, e⟩ := p
        intro h
        rw [lkW_cons]
        simp only [lk] at h
        split
        · rename_i e1; rw [if_pos e1] at h; exact Option.some.inj h
        · rename_i e1; rw [if_neg e1] at h; exact ih h
    exact this hd
  | const v => exact constW_ex h
  | global g => exact glW_ex h
  | func f => exact ⟨_, rfl, h⟩

section
variable {G : Glob} {P : Program} {l : Nat} {ys : List (List D)} {J : Nat → (Nat → Prop) → World → Prop} {Q : Exit → Act → World → Prop} {N : Nat}

theorem yld_ok (hI : Itr P l ys J) {w0 : Bas} {w : World} {φ : Loc} {S : St} {a : Act} {k : D → St → Prop} {K : Act → World → Prop} (hw : WY G J w0) (hs : SatC w0 φ S a.tmps w) {dst : Option Tmp} {f : Operand} {args : Array Operand} {ts : Array TypeId} {ty : TypeId} {pos : String} {after : Array Edge} {guard : Option (Nat × Bool)} {ds : List D}
    (hf : a.eval f = .func (.yield l) #[] #[]) (hl : (args.toList.map a.eval).length = ds.length) (hr : ∀ (i : Nat) (v : Value) (d : D), (args.toList.map a.eval)[i]? = some v → ds[i]? = some d → Rep φ w (FSx φ S.own w) v d) (h : yldW ys ds S k)
    (hn : ∀ w0' v w', WY G J w0' → Left w0' S a.tmps k v w' → K (a.put dst v) w') : (Oper.mk dst (.call ⟨.value f, args, ts⟩) ty pos after guard).wpIn (fw none) N P a w K Q := by
  obtain ⟨hfl, h⟩ := h
  obtain ⟨c, hc, i, T, rfl, hi, hib, hT, hk⟩ := lkoW_ok h
  have hφ : φ 1000000 = (none, 0) := by rw [hs.pin 1000000 (Nat.le_refl _), w0.loc0]
  obtain ⟨i', hgi, hJ⟩ := hw.at_
  obtain rfl : i' = i := by
    have h3 := (hs.own _ _ hc).1
    unfold OwnOk at h3
    rw [hφ] at h3
    obtain ⟨v, b1, b2⟩ := h3.1 0 (.int .i64 i) rfl
    obtain ⟨rfl, _⟩ := b2.int_inv
    rw [hs.base, hgi] at b1
    have b2 : (i' : Int) = i := by simpa using b1
    omega
  have hJ2 : J i' (fun b => w0.base b ∧ b < w.heap.size) w := hI.less _ _ _ _ (fun b hb => by
      rcases Nat.lt_or_ge b w0.w.heap.size with h1 | h1
      · exact .inl ⟨hb.1, h1⟩
      · exact .inr ⟨h1, hb.2⟩) (hI.grow _ _ _ _ hJ (hs.below.below hw.lent))
  have hfa : FArgs w (fun _ => False) (args.toList.map a.eval) (ds.map ogD) := ⟨by simpa using hl, fun j v d' hv hd' => by
    have hp : flA d' := hfl d' (List.mem_of_getElem? hd')
    rw [List.getElem?_map] at hd'
    obtain ⟨d, hd, rfl⟩ := Option.map_eq_some_iff.1 hd'
    have hrd := hr j v d hv hd
    by_cases ho : ∃ cs, d = .oag cs
    · obtain ⟨cs, rfl⟩ := ho
      cases hrd with
      | ro h => cases h
      | oag a b c => exact .agg a b fun i v d hv hd => ((c i v d hv hd).pure (flS_isP (hp d (List.mem_of_getElem? hd)))).flS (hp d (List.mem_of_getElem? hd))
    · have e : ogD d = d := by cases d <;> first | rfl | exact absurd ⟨_, rfl⟩ ho
      rw [e] at hp ⊢
      have : isP d = true := by cases d <;> first | rfl | (simp [flA, flS] at hp)
      exact (hrd.pure this).flA hp⟩
  obtain ⟨fn, tmps, assign, body, hy, hR⟩ := hI.round i' _ w _ (ds.map ogD) hi hJ2 hfa
  have hrun : (execOp a.eval (Oper.mk dst (.call ⟨.value f, args, ts⟩) ty pos after guard)).run P w = .ok (.round l fn tmps assign body) w := by
    have e : (args.toList.map a.eval).toArray = args.map a.eval := by apply Array.ext'; simp
    rw [e] at hy
    simp [execOp, resolve, Deferred.ofValue, hf, invoke, callFunc, hy]
  refine ⟨fun _ _ => trivial, ?_⟩
  rw [Oper.semAt_eq _ _ _ (by simp), hrun, Oper.uponIn_round]
  refine ⟨fun h => by simp [fw] at h, (hR _).mono ?_⟩
  rintro e W' ⟨rfl, hJ3, hsz, hun⟩
  let gh' : Nat → Nat → Option Value := fun id j => if id = 1000000 then some (.int .i64 ((i' + 1 : Nat) : Int)) else φ.base.gh id j
  obtain ⟨w1, φ1, hs1, e1, e2, e3, e4, e5, e6⟩ := hs.rebase (G := G) hw.glob hsz (fun b hb hbb => hun b hb ⟨by rw [← hs.base]; exact hbb, hb⟩) gh' ⟨S.n, S.nx, T, [(1000000, [.int .i64 ((i' + 1 : Nat) : Int)])]⟩ a.tmps hs.size (fun id c hc => by
      simp only [lk] at hc
      split at hc
      · rename_i e; cases hc; subst e
        refine .inr ⟨hφ, fun j d hd => ?_⟩
        cases j with
        | zero => simp at hd; subst hd; exact ⟨.int .i64 ((i' + 1 : Nat) : Int), by simp [gh'], .ro (.int (by show (-9223372036854775808 : Int) ≤ _; omega) (by show _ ≤ (9223372036854775807 : Int); omega))⟩
        | succ j => simp at hd
      · cases hc) (fun s d hd => hs.env s d (wkE_ok hT s d hd))
  refine hn w1 _ W' ⟨e2, fun b hb => ?_, i' + 1, ?_, ?_⟩ ⟨φ1, _, _, hk, hs1, .ro .bool, rfl⟩
  · obtain ⟨id, c, hc, hb⟩ := (e5 b).1 hb
    simp only [lk] at hc
    split at hc
    · rename_i e; subst e; rw [hφ] at hb; cases hb
    · cases hc
  · rw [e3]; simp [gh']
  · rw [e1]
    refine hI.less _ _ _ _ (fun b hb => ?_) hJ3
    obtain ⟨h1, h2⟩ := (e4 b).1 hb.1
    exact ⟨by rw [← hs.base]; exact h1, by have := hb.2; omega⟩

theorem opY_ok (hI : Itr P l ys J) {w0 : Bas} {w : World} {φ : Loc} {S : St} {a : Act} {k : D → St → Prop} {K : Act → World → Prop} (hw : WY G J w0) (hs : SatC w0 φ S a.tmps w) (o : Oper) (h : opY G P l ys o.op S k)
    (hn : ∀ w0' v w', WY G J w0' → Left w0' S a.tmps k v w' → K (a.put o.dst v) w') : o.wpIn (fw none) N P a w K Q := by
  have plain : opW G P o.op S k → o.wpIn (fw none) N P a w K Q := fun h => opW_ok hw.glob hs o h fun v w' hl => hn w0 v w' hw hl
  obtain ⟨dst, op, ty, pos, after, guard⟩ := o
  cases op with
  | call c =>
    obtain ⟨callee, args, ts⟩ := c
    cases callee with
    | value f =>
      have h : evW G S f fun df => evAW G S args fun ds => callY G P l ys df ds S k := h
      obtain ⟨df, hdf, h⟩ := evW_exd h
      by_cases hy : ∃ l', df = .yld l'
      · obtain ⟨l', rfl⟩ := hy
        obtain ⟨d2, rfl, hfr⟩ := evW_ok hw.glob hs hdf
        obtain ⟨ds, h2, hl, hr⟩ := evLW_ok hw.glob hs h
        obtain ⟨e, h3⟩ := h2
        subst e
        have hfe : a.eval f = .func (.yield l') #[] #[] := by
          generalize a.eval f = fv at hfr
          cases hfr with | ro hfr => cases hfr; rfl
        exact yld_ok hI hw hs hfe hl hr h3 hn
      · refine plain ?_
        show evW G S f fun df => evAW G S args fun ds => funW G P df ds S k
        refine evW_mono ?_ hdf
        rintro d rfl
        have e : ∀ ds, callY G P l ys d ds S k = funW G P d ds S k := by
          intro ds
          cases d <;> first | rfl | exact absurd ⟨_, rfl⟩ hy
        simpa only [e] using h
    | builtin b => exact plain h
    | invoke _ _ => exact plain h
  | _ => exact plain h

theorem opsY_ok (hI : Itr P l ys J) {ops : List Oper} : ∀ {r : List Oper} {w0 : Bas} {S : St} {a : Act} {w : World} {φ : Loc} {k : St → Prop}, WY G J w0 → SatC w0 φ S a.tmps w → opsY G P l ys ops r S k →
    (∀ w0' S' a' w' φ', WY G J w0' → k S' → SatC w0' φ' S' a'.tmps w' → S'.n = S.n → a'.defers = a.defers → Q .normal a' w') → wpListIn (fw none) N P ops.toArray Q r a w
  | [], w0, S, a, w, φ, k, hw, hs, h, hn => hn w0 _ _ _ _ hw h hs rfl rfl
  | o :: rest, w0, S, a, w, φ, k, hw, hs, h, hn => by
    unfold wpListIn
    rcases grdW_ok hs h with ⟨hwd, S1, h1, n1, hs1⟩ | ⟨hwd, S1, h1, n1, hs1⟩
    · rw [if_pos hwd]
      refine opY_ok hI hw hs1 o h1 ?_
      rintro w0' v w' hw' ⟨φ', d, S2, h2, hs2, hr, n2⟩
      obtain ⟨S3, h3, n3, hs3⟩ := putW_ok hs2 hr h2
      exact opsY_ok hI (a := a.put o.dst v) hw' (hs3 a.defers) h3 fun w0'' S' a' w' φ' hw'' hk hs' hnn hd => hn w0'' S' a' w' φ' hw'' hk hs' (by rw [hnn, n3, n2, n1]) (by rw [hd, put_defers])
    · rw [if_neg (by rw [hwd]; simp)]
      obtain ⟨S3, h3, n3, hs3⟩ := putW_ok hs1 (v := undef) (.ro (.tup (ds := []) rfl fun i v d hv => by simp at hv)) h1
      refine ⟨fun _ _ => trivial, ?_⟩
      exact opsY_ok hI (a := a.put o.dst undef) hw (hs3 a.defers) h3 fun w0' S' a' w' φ' hw' hk hs' hnn hd => hn w0' S' a' w' φ' hw' hk hs' (by rw [hnn, n3, n1]) (by rw [hd, put_defers])

def onlyN (k : St → Prop) : Ex → St → Prop
  | .nrm, S => k S
  | _, _ => False

structure KQY (G : Glob) (J : Nat → (Nat → Prop) → World → Prop) (n : Nat) (df : List Deferred) (K : Ex → St → Prop) (Q : Exit → Act → World → Prop) : Prop where
  nrm : ∀ {w0 S a w φ}, WY G J w0 → K .nrm S → SatC w0 φ S a.tmps w → S.n = n → a.defers = df → Q .normal a w
  ext : ∀ {w0 i S a w φ}, WY G J w0 → K (.ext i) S → SatC w0 φ S a.tmps w → S.n = n → a.defers = df → Q (.exit i) a w
  rt : ∀ {w0 S a w φ}, WY G J w0 → K .rt S → SatC w0 φ S a.tmps w → S.n = n → a.defers = df → Q .ret a w

theorem rgnT_ok {r : Option Nat} {w0 : Bas} {w : World} {φ : Loc} {S : St} {a : Act} {k : St → Prop} {ops : List Oper} {id : Nat} (hG : GOk G w0) (hm : P.follows .mixedOrders = true) (hs : SatC w0 φ S a.tmps w) (h : rgnT G P ops S k)
    (hn : ∀ S' a' w' φ', k S' → SatC w0 φ' S' a'.tmps w' → S'.n = S.n → a'.defers = a.defers → Q .normal a' w') : (Code.region id ops.toArray true).wpIn (fw r) N P Q a w := by
  refine codeW_ok (r := r) (K := onlyN k) hG (.region id ops.toArray true) hs ?_ ⟨fun h1 hs' h2 h3 => hn _ _ _ _ h1 hs' h2 h3, fun h1 => h1.elim, fun h1 => h1.elim⟩
  refine ⟨hm, ?_⟩
  have e : ops.toArray.toList = ops := by simp
  rw [e]; exact h

theorem codeY_ok (hI : Itr P l ys J) : ∀ (c : Code) {w0 : Bas} {S : St} {a : Act} {w : World} {φ : Loc} {K : Ex → St → Prop} {Q : Exit → Act → World → Prop},
    WY G J w0 → SatC w0 φ S a.tmps w → codeY G P l ys c S K → KQY G J S.n a.defers K Q → c.wpIn (fw none) N P Q a w := by
  intro c
  induction c with
  | skip => intro w0 S a w φ K Q hw hs h q; exact wpIn_skip (q.nrm hw h hs rfl rfl)
  | label l => intro w0 S a w φ K Q hw hs h q; exact wpIn_label (q.nrm hw h hs rfl rfl)
  | exit id => intro w0 S a w φ K Q hw hs h q; exact wpIn_exit (q.ext hw h hs rfl rfl)
  | ret => intro w0 S a w φ K Q hw hs h q; exact wpIn_ret (q.rt hw h hs rfl rfl)
  | region id ops draw =>
    intro w0 S a w φ K Q hw hs h q
    cases draw with
    | false =>
      refine wpIn_region_list ?_
      have := opsY_ok (Q := Q) (N := N) hI hw hs h fun w0' S' a' w' φ' hw' hk hs' hn hd => q.nrm hw' hk hs' hn hd
      simpa using this
    | true =>
      obtain ⟨hm, h | ⟨m, h1, h2, h3, h⟩⟩ := h
      · have := rgnT_ok (Q := Q) (N := N) (id := id) (r := none) hw.glob hm hs h fun S' a' w' φ' hk hs' hn hd => q.nrm hw hk hs' hn hd
        simpa using this
      · have := drw_tail (r := none) (N := N) (Q := Q) (id := id) (kt := fun S => opsY G P l ys ops.toList (ops.toList.drop m) S (K .nrm)) hw.glob hm h1 h2 h3 hs h fun S' a' w' φ' hk hs' hn hd =>
          opsY_ok hI hw hs' hk fun w0'' S'' a'' w'' φ'' hw'' hk'' hs'' hn'' hd'' => q.nrm hw'' hk'' hs'' (hn''.trans hn) (hd''.trans hd)
        simpa using this
  | seq x y ihx ihy =>
    intro w0 S a w φ K Q hw hs h q
    refine wpIn_seq (ihx hw hs h ⟨fun {w0' S' a' w' φ'} hw' h1 hs' hn hd => ?_, fun hw' h1 hs' hn hd => q.ext hw' h1 hs' hn hd, fun hw' h1 hs' hn hd => q.rt hw' h1 hs' hn hd⟩)
    exact ihy hw' hs' h1 (by rw [hn, hd]; exact q)
  | cond c x y ihx ihy =>
    intro w0 S a w φ K Q hw hs h q
    obtain ⟨d, h, hd⟩ := evW_ok hw.glob hs h
    cases d with
    | bool t => exact wpIn_cond_split hd.bool_inv (fun e => ihx hw hs (h.1 e) q) (fun e => ihy hw hs (h.2 e) q)
    | _ => exact h.elim
  | block id c ih =>
    intro w0 S a w φ K Q hw hs h q
    refine wpIn_block (ih hw hs h ⟨fun hw' h1 hs' hn hd => q.nrm hw' h1 hs' hn hd, fun {w0' i S' a' w' φ'} hw' h1 hs' hn hd => ?_, fun hw' h1 hs' hn hd => q.rt hw' h1 hs' hn hd⟩)
    simp only [Exit.inBlock]
    split
    · rename_i e; exact q.nrm hw' (h1.1 e) hs' hn hd
    · rename_i e; exact q.ext hw' (h1.2 e) hs' hn hd
  | loop c ih =>
    intro w0 S a w φ K Q hw hs h q
    obtain ⟨ads, α, I, R, m, h0, hB⟩ := h
    obtain ⟨φ', S', ⟨x, hR, hwk⟩, hs', hn'⟩ := adoptW_ok hs h0
    have key : ∀ n (x : α) w0 a' w' φ', m x < n → R x → WY G J w0 → SatC w0 φ' (I x) a'.tmps w' → (I x).n = S.n → a'.defers = a.defers → Code.roundsIn (fw none) N P c Q n a' w' := by
      intro n
      induction n with
      | zero => intro x w0 a' w' φ' hm; omega
      | succ n ihn =>
        intro x w0 a' w' φ' hm hR hw1 hs1 hn1 hd1
        rw [roundsIn_succ]
        refine ih hw1 hs1 (hB x hR) ⟨fun {w02 S2 a2 w2 φ2} hw2 h1 hs2 hn2 hd2 => ?_, fun hw2 h1 hs2 hn2 hd2 => q.ext hw2 h1 hs2 (by rw [hn2, hn1]) (by rw [hd2, hd1]), fun hw2 h1 hs2 hn2 hd2 => q.rt hw2 h1 hs2 (by rw [hn2, hn1]) (by rw [hd2, hd1])⟩
        obtain ⟨y, hy, hmy, hwk⟩ := h1
        exact ihn y w02 a2 w2 φ2 (by omega) hy hw2 (wkW_ok hs2 hwk) (by rw [hwk.1, hn2, hn1]) (by rw [hd2, hd1])
    exact wpIn_loop_rounds (m x + 1) (key _ x w0 a w φ' (by omega) hR hw (wkW_ok hs' hwk) (by rw [hwk.1, hn']) rfl)
  | _ => intro w0 S a w φ K Q hw hs h q; exact h.elim

end
end Go.Abs
