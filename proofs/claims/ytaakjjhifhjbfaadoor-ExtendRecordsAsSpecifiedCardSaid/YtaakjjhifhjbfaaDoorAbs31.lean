/-
  AN ABSTRACT WALK: a function that makes one map from integers to integers, looks into it and stores into it. The map's own number and how often it was stored into stand in a block that no memory has (1000000).
-/
import Derived.Test.YtaakjjhifhjbfaaDoorAbs30
import Derived.Maps.OwnSet
namespace Go.Abs
open Go.RowKit (Below)
open Go.Maps (Keyed)

/-! ### A map's datum -/
def datS (D : DataW Unit) (p : Int × Int) : DataW Unit := D.put (.int .i64 p.1) (.lit (.int .i64 p.2))
/-- What a map reads as, by what was stored in it, in order. -/
def datM (h : List (Int × Int)) : DataW Unit := h.foldl datS (.map [])
def lkS (k : Int) (o : Option Int) (p : Int × Int) : Option Int := if p.1 = k then some p.2 else o
/-- What was stored last under a key. -/
def lkM (h : List (Int × Int)) (k : Int) : Option Int := h.foldl (lkS k) none
theorem datM_ok (k : Int) : ∀ (h : List (Int × Int)) (D : DataW Unit) (o : Option Int), Maps.IsMap D → (D.atKey (.int .i64 k) (.lit (.int .i64 0)) = .lit (.int .i64 (o.getD 0)) ∧ Maps.has D (.int .i64 k) = o.isSome) →
    ((h.foldl datS D).atKey (.int .i64 k) (.lit (.int .i64 0)) = .lit (.int .i64 ((h.foldl (lkS k) o).getD 0)) ∧ Maps.has (h.foldl datS D) (.int .i64 k) = (h.foldl (lkS k) o).isSome)
  | [], D, o, _, h => h
  | p :: r, D, o, hD, h => by
    refine datM_ok k r (datS D p) (lkS k o p) (hD.put _ _) ?_
    unfold datS lkS
    by_cases e : p.1 = k
    · rw [if_pos e, e]
      exact ⟨Maps.atKey_put_same hD (show WideAt.IsKeyLit (.int .i64 k) from trivial) _ _, Maps.has_put_same hD (show WideAt.IsKeyLit (.int .i64 k) from trivial) _⟩
    · rw [if_neg e]
      have hne : (Lit.int .i64 k) ≠ .int .i64 p.1 := by intro h; injection h with _ h; exact e h.symm
      exact ⟨by rw [Maps.atKey_put_other hne]; exact h.1, by rw [Maps.has_put_other hne]; exact h.2⟩
theorem datM_at (h : List (Int × Int)) (k : Int) : (datM h).atKey (.int .i64 k) (.lit (.int .i64 0)) = .lit (.int .i64 ((lkM h k).getD 0)) ∧ Maps.has (datM h) (.int .i64 k) = (lkM h k).isSome :=
  datM_ok k h (.map []) none ⟨_, rfl⟩ ⟨rfl, rfl⟩

/-! ### A drawn region's tail -/
theorem drx_tail {r : Option Nat} {N : Nat} {G : Glob} {P : Program} {w0 : Bas} {w : World} {φ : Loc} {S : St} {a : Act} {kt : St → Prop} {Q : Exit → Act → World → Prop} {l : List Oper} {id m : Nat} {hid : List Nat} (hG : GOk G w0) (hm : P.follows .mixedOrders = true) (hml : m ≤ l.length) (hB : drwB l m = true)
    (hs : SatC w0 φ S a.tmps w) (h : nmRE S.nx S.env ∧ nmRO S.nx S.own ∧ splitO hid S.own fun dy ow => drxW G P l S.n S.nx ow (l.take m) S.nx dy [] [] S.env fun nxt dy' E => apO dy' ow fun o => kt ⟨S.n, nxt, E, o⟩) (ht : ∀ S' a' w' φ', kt S' → SatC w0 φ' S' a'.tmps w' → S'.n = S.n → a'.defers = a.defers → wpListIn (fw r) N P l.toArray Q (l.drop m) a' w') : (Code.region id l.toArray true).wpIn (fw r) N P Q a w := by
  obtain ⟨hE, hO, h⟩ := h
  obtain ⟨dy, ow, h, hsp⟩ := splitO_ok h
  have hB := drwB_ok hB
  have dyO : ∀ i c, lk i dy = some c → lk i S.own = some c ∧ lk i ow = none := by
    intro i c hc
    by_cases e : i ∈ hid
    · exact ⟨((hsp i).1 e).1 ▸ hc, ((hsp i).1 e).2⟩
    · rw [((hsp i).2 e).1] at hc; cases hc
  have owO : ∀ i c, lk i ow = some c → lk i S.own = some c := by
    intro i c hc
    by_cases e : i ∈ hid
    · rw [((hsp i).1 e).2] at hc; cases hc
    · exact ((hsp i).2 e).2 ▸ hc
  have Oall : ∀ i, lk i dy = none → lk i ow = lk i S.own := by
    intro i hd
    by_cases e : i ∈ hid
    · rw [((hsp i).1 e).2, ← ((hsp i).1 e).1, hd]
    · exact ((hsp i).2 e).2
  obtain ⟨res, ch, nxt', dy', al', st', E2, _, _, r3, r4, r5, r6, r7, r8⟩ := drx_ext (l := l) (env0 := S.env) (O0 := S.own) (K := fun i => ∃ c, lk i dy = some c) hml (l.take m) 0 S.nx dy [] [] S.env [] [] rfl rfl (Nat.zero_le _) (by simp)
    (fun t d hd => .inr ⟨fun j o hj => by omega, hd⟩)
    ⟨Nat.le_refl _, fun i c hc => ⟨(dyO i c hc).1, (nmRO_ok hO i c (dyO i c hc).1).1, (nmRO_ok hO i c (dyO i c hc).1).2⟩, fun i c hc => .inl ⟨c, hc⟩, fun i hk => hk, fun j i c hc => by simp at hc⟩ h
  have notin : ∀ i c, lk i ow = some c → lk i dy' = none := by
    intro i c hc
    cases e : lk i dy' with
    | none => rfl
    | some c' =>
      rcases r7.key i c' e with ⟨c2, h2⟩ | h2
      · rw [(dyO i c2 h2).2] at hc; cases hc
      · have := (nmRO_ok hO i c (owO i c hc)).1; omega
  refine wpIn_region_any hm ?_
  have hsz : l.toArray.size = l.length := by simp
  rw [hsz]
  refine drx_run (w0 := w0) (n := S.n) (a := S.nx) (own := ow) (O0 := S.own) (df := a.defers) (res := res) (ch := ch) (m := m) (env0 := S.env) hG hB hml r4 (fun j hj => r5 j (Nat.zero_le _) hj) (fun i c hc => (nmRO_ok hO i c hc).2) (nmRE_ok hE)
    (fun i c hc => ⟨owO i c hc, fun j c' hj hch => by
      obtain ⟨⟨c2, h2⟩, _⟩ := r7.tch j i c' hch
      rw [notin i c hc] at h2; cases h2⟩) E2 r6 (fun a' w' φ' O hd hOL hs' => ?_) l.length _ a _ ⟨by simp, fun j o hj hl => ?_⟩ ?_ (.inl ⟨fun j hj hl => ?_, rfl, φ, S.own, ?_, ?_⟩)
  · have hs2 : SatC w0 φ' ⟨S.n, nxt', E2, dy' ++ ow⟩ a'.tmps w' := by
      refine SatC.congr_own (own := O) ⟨hs'.below, hs'.size, hs'.own, hs'.inj, hs'.env, hs'.base, hs'.pin⟩ fun j => ?_
      have app : lk j (dy' ++ ow) = match lk j dy' with | some c => some c | none => lk j ow := by
        generalize dy' = A
        induction A with
        | nil => rfl
        | cons x A ih =>
          obtain ⟨s, y⟩ := x
          simp only [List.cons_append, lk]
          split
          · rfl
          · exact ih
      rw [app, hOL]
      cases e : lk j dy' with
      | some c => exact (r7.dyc j c e).1.symm
      | none =>
        simp only
        rw [OL_cut (i := 0) (Nat.zero_le _) (fun i c _ _ hc => by obtain ⟨⟨c2, h2⟩, _⟩ := r7.tch i j c hc; rw [e] at h2; cases h2)]
        refine Oall j ?_
        cases e2 : lk j dy with
        | none => rfl
        | some c => obtain ⟨c3, h3⟩ := r7.keep j ⟨c, e2⟩; rw [e] at h3; cases h3
    exact ht _ _ _ _ r8 hs2 rfl hd
  · exact absurd hl lst_none
  · unfold unl; simp
  · exact absurd hl lst_none
  · intro i
    rw [OL_cut (i := 0) (Nat.zero_le _) (fun j c _ _ _ => lst_none)]; rfl
  · have hs2 := hs.drew
    refine ⟨⟨hs2.below, hs2.size, hs2.own, hs2.inj, fun s d hd => by simp [lk] at hd, hs2.base, hs2.pin⟩, fun t d ht => ?_⟩
    refine hs2.env t d ?_
    rcases ht with ⟨j, o, q1, q2, q3, q4, q5⟩ | ⟨_, q2⟩
    · exact absurd q2 lst_none
    · exact q2

/-! ### The operations -/
/-- A map's type: from integers to integers. -/
def mapT (P : Program) (kt et t : TypeId) : Prop := P.underlying t = some (.map kt et) ∧ P.underlying kt = some (.int .i64) ∧ P.underlying et = some (.int .i64) ∧ ∀ w, (zeroValue et).run P w = .ok (.int .i64 0) w
def lkpW (h : Nat → List (Int × Int)) (dm dx : D) (S : St) (k : D → St → Prop) : Prop :=
  lkoW 1000000 S.own fun c => ∃ (r i : Nat) (x : Int), dm = .mpr r ∧ dx = .int .i64 x ∧ c = [.mpr r, .int .i64 i] ∧ k (.tup [.int .i64 ((lkM (h i) x).getD 0), .bool (lkM (h i) x).isSome]) S
def updW (h : Nat → List (Int × Int)) (dm dx dv : D) (S : St) (k : D → St → Prop) : Prop :=
  lkoW 1000000 S.own fun c => ∃ (r i : Nat) (x v : Int) (T : List (Nat × D)) (O : List (Nat × List D)), dm = .mpr r ∧ dx = .int .i64 x ∧ dv = .int .i64 v ∧ c = [.mpr r, .int .i64 i] ∧ h (i + 1) = h i ++ [(x, v)] ∧ (i : Int) + 1 ≤ 9223372036854775807 ∧ wkE S.env T ∧ wkO S.own O ∧ k .any ⟨S.n, S.nx, T, (1000000, [.mpr r, .int .i64 ((i + 1 : Nat) : Int)]) :: O⟩
def mkmW (h : Nat → List (Int × Int)) (S : St) (k : D → St → Prop) : Prop :=
  h 0 = [] ∧ ∀ r : Nat, k (.mpr r) ⟨S.n, S.nx, S.env, (1000000, [.mpr r, .int .i64 0]) :: S.own⟩
def opM (G : Glob) (P : Program) (kt et : TypeId) (h : Nat → List (Int × Int)) (op : Op) (S : St) (k : D → St → Prop) : Prop :=
  match op with
  | .makeMap t none => mapT P kt et t ∧ hold (mkmW h S k) (tg _)
  | .lookup t m x true => mapT P kt et t ∧ evW G S m fun dm => evW G S x fun dx => hold (lkpW h dm dx S k) (tg _)
  | .mapUpdate t m x v => mapT P kt et t ∧ evW G S m fun dm => evW G S x fun dx => evW G S v fun dv => hold (updW h dm dx dv S k) (tg _)
  | op => opW G P op S k
def opsM (G : Glob) (P : Program) (kt et : TypeId) (h : Nat → List (Int × Int)) (ops : List Oper) : List Oper → St → (St → Prop) → Prop
  | [], S, k => k S
  | o :: rest, S, k => grdW ops o.guard S (fun S => opM G P kt et h o.op S fun d S => putW o.dst d S fun S => opsM G P kt et h ops rest S k) fun S => putW o.dst (.tup []) S fun S => opsM G P kt et h ops rest S k
def rgnMT (G : Glob) (P : Program) (kt et : TypeId) (h : Nat → List (Int × Int)) (ops : List Oper) (S : St) (k : St → Prop) : Prop :=
  rgnT G P ops S k ∨ (∃ m, m < ops.length ∧ (ops.take m).all (fun o => stb o.op) = true ∧ drwB ops m = true ∧ drwW G P ops S.n S.nx S.own (ops.take m) S.env fun S => opsM G P kt et h ops (ops.drop m) S k) ∨
    ∃ m hid, m ≤ ops.length ∧ drwB ops m = true ∧ nmRE S.nx S.env ∧ nmRO S.nx S.own ∧ splitO hid S.own fun dy ow => drxW G P ops S.n S.nx ow (ops.take m) S.nx dy [] [] S.env fun nxt dy' E => apO dy' ow fun o => opsM G P kt et h ops (ops.drop m) ⟨S.n, nxt, E, o⟩ k
def rgnM (G : Glob) (P : Program) (kt et : TypeId) (h : Nat → List (Int × Int)) (draw : Bool) (ops : List Oper) (S : St) (k : St → Prop) : Prop :=
  match draw with
  | false => opsM G P kt et h ops ops S k
  | true => P.follows .mixedOrders = true ∧ hold (rgnMT G P kt et h ops S k) (tg _)
def codeM (G : Glob) (P : Program) (kt et : TypeId) (h : Nat → List (Int × Int)) : Code → St → (Ex → St → Prop) → Prop
  | .skip, S, K => K .nrm S
  | .region _ ops draw, S, K => rgnM G P kt et h draw ops.toList S (K .nrm)
  | .seq x y, S, K => codeM G P kt et h x S (seqK (fun S => codeM G P kt et h y S K) K)
  | .cond c x y, S, K => evW G S c fun d => cndW d (codeM G P kt et h x S K) (codeM G P kt et h y S K)
  | .block id c, S, K => codeM G P kt et h c S (blkK id K)
  | .loop c, S, K => loopW S (fun S K => codeM G P kt et h c S K) K
  | .exit id, S, K => K (.ext id) S
  | .label _, S, K => K .nrm S
  | .ret, S, K => K .rt S
  | _, _, _ => False

/-- The map is made: it holds what was stored. -/
structure WM (G : Glob) (P : Program) (kt et : TypeId) (h : Nat → List (Int × Int)) (b0 w0 : Bas) : Prop where
  glob : w0.G = G
  lent : ∀ b, w0.lent b → b0.w.heap.size ≤ b
  came : Below b0.w.heap.size b0.w w0.w
  at_ : ∀ v, w0.base.gh 1000000 0 = some v → ∃ r i : Nat, v = .map (some r) ∧ w0.base.gh 1000000 1 = some (.int .i64 i) ∧ w0.w.ownsMap P kt (plainElem P et) r i (datM (h i)) ∧ ¬ w0.base r ∧ b0.w.heap.size ≤ r

theorem Rep.mpr_inv {φ : Loc} {w : World} {F : Nat → Prop} {v : Value} {r : Nat} (h : Rep φ w F v (.mpr r)) : v = .map (some r) := by
  cases h with
  | ro h => cases h; rfl
theorem ownsMap_eq {H : Type} {P : Program} {k : TypeId} {R : Value → Option (DataW H × List MemPlace)} {w w' : World} {b n : Nat} {D : DataW H} (h : w.ownsMap P k R b n D) (e : w'.heap[b]? = w.heap[b]?) : w'.ownsMap P k R b n D := by
  obtain ⟨es, c, hb, r⟩ := h
  exact ⟨es, c, e.trans hb, r⟩

section
variable {G : Glob} {P : Program} {kt et : TypeId} {h : Nat → List (Int × Int)} {b0 : Bas} {Q : Exit → Act → World → Prop} {N : Nat}

/-- What the ghost block says. -/
theorem WM.read {w0 : Bas} {w : World} {φ : Loc} {S : St} {tmps : Array Value} (hw : WM G P kt et h b0 w0) (hs : SatC w0 φ S tmps w) {r i : Nat} (hc : lk 1000000 S.own = some [.mpr r, .int .i64 i]) :
    φ 1000000 = (none, 0) ∧ w.ownsMap P kt (plainElem P et) r i (datM (h i)) ∧ ¬ φ.base r ∧ b0.w.heap.size ≤ r ∧ r < w0.w.heap.size := by
  have hφ : φ 1000000 = (none, 0) := by rw [hs.pin 1000000 (Nat.le_refl _), w0.loc0]
  have h3 := (hs.own _ _ hc).1
  unfold OwnOk at h3
  rw [hφ] at h3
  obtain ⟨v, b1, b2⟩ := h3.1 0 (.mpr r) rfl
  obtain ⟨u, c1, c2⟩ := h3.1 1 (.int .i64 i) rfl
  rw [hs.base] at b1 c1
  obtain ⟨r', i', e1, e2, e3, e4, e5⟩ := hw.at_ v b1
  have e6 := b2.mpr_inv
  rw [e6] at e1
  injection e1 with e1; injection e1 with e1
  obtain ⟨rfl, _⟩ := c2.int_inv
  rw [e2] at c1
  have e7 : (i' : Int) = i := by simpa using c1
  obtain rfl : i' = i := by omega
  subst e1
  refine ⟨hφ, ownsMap_eq e3 (hs.below.block _ e3.lt fun g => e4 (w0.lb _ g).1), by rw [hs.base]; exact e4, e5, e3.lt⟩

theorem WM.below {w0 : Bas} {w : World} {φ : Loc} {S : St} {tmps : Array Value} (hw : WM G P kt et h b0 w0) (hs : SatC w0 φ S tmps w) : Below b0.w.heap.size b0.w w := by
  have g1 := hw.came
  have g2 := hs.below
  exact ⟨g2.os.trans g1.os, g2.tape.trans g1.tape, g2.output.trans g1.output, Nat.le_trans g1.size g2.size, fun b hb => (g2.block b (Nat.lt_of_lt_of_le hb g1.size) fun g => by have := hw.lent b g; omega).trans (g1.block b hb)⟩
/-- The call's own blocks lie behind where it began. -/
theorem WM.ownGe {w0 : Bas} {w : World} {φ : Loc} {S : St} {tmps : Array Value} (hw : WM G P kt et h b0 w0) (hs : SatC w0 φ S tmps w) {id : Nat} {c : List D} {b : Nat} (hc : lk id S.own = some c) (hb : (φ id).1 = some b) : b0.w.heap.size ≤ b := by
  rcases (hs.own id c hc).2 b hb with g | g
  · exact Nat.le_trans hw.came.size g
  · exact hw.lent b g
theorem gh_own {w0 : Bas} {w : World} {φ : Loc} {S : St} {tmps : Array Value} (hs : SatC w0 φ S tmps w) {w' : World} (hsz : w.heap.size ≤ w'.heap.size) (hun : ∀ b, b < w.heap.size → φ.base b → w'.heap[b]? = w.heap[b]?) (hG : GOk G w0) (hφ : φ 1000000 = (none, 0)) (r i : Nat) (hi : (i : Int) ≤ 9223372036854775807) (T : List (Nat × D)) (hT : ∀ s d, lk s T = some d → lk s S.env = some d) (O : List (Nat × List D)) (hO : ∀ s d, lk s O = some d → lk s S.own = some d) :
    ∃ w1 φ1, SatC w1 φ1 ⟨S.n, S.nx, T, (1000000, [.mpr r, .int .i64 i]) :: O⟩ tmps w' ∧ w1.w = w' ∧ w1.G = G ∧ w1.base.gh 1000000 0 = some (.map (some r)) ∧ w1.base.gh 1000000 1 = some (.int .i64 i) ∧ (∀ b, w1.base b ↔ φ.base b ∧ (b < w.heap.size ∨ w'.heap.size ≤ b)) ∧ (∀ b, w1.lent b → ∃ id c, lk id S.own = some c ∧ (φ id).1 = some b) ∧ ∀ i, φ1 i = φ i := by
  let gh' : Nat → Nat → Option Value := fun id j => if id = 1000000 then (if j = 0 then some (.map (some r)) else some (.int .i64 (i : Int))) else φ.base.gh id j
  obtain ⟨w1, φ1, hs1, e1, e2, e3, e4, e5, e6⟩ := hs.rebase (G := G) hG hsz hun gh' ⟨S.n, S.nx, T, (1000000, [.mpr r, .int .i64 i]) :: O⟩ tmps hs.size (fun id c hc => by
      simp only [lk] at hc
      split at hc
      · rename_i e; cases hc; subst e
        refine .inr ⟨hφ, fun j d hd => ?_⟩
        match j with
        | 0 => simp at hd; subst hd; exact ⟨.map (some r), by simp [gh'], .ro .mpr⟩
        | 1 => simp at hd; subst hd; exact ⟨.int .i64 (i : Int), by simp [gh'], .ro (.int (by show (-9223372036854775808 : Int) ≤ _; omega) (by show _ ≤ (9223372036854775807 : Int); omega))⟩
        | j + 2 => simp at hd
      · rename_i e; exact .inl ⟨hO _ _ hc, by simp [gh', e]⟩) (fun s d hd => hs.env s d (hT s d hd))
  refine ⟨w1, φ1, hs1, e1, e2, by rw [e3]; simp [gh'], by rw [e3]; simp [gh'], e4, fun b hb => ?_, e6⟩
  obtain ⟨id, c, hc, hb⟩ := (e5 b).1 hb
  simp only [lk] at hc
  split at hc
  · rename_i e; subst e; rw [hφ] at hb; cases hb
  · exact ⟨id, c, hO _ _ hc, hb⟩

theorem opM_ok {w0 : Bas} {w : World} {φ : Loc} {S : St} {a : Act} {k : D → St → Prop} {K : Act → World → Prop} (hw : WM G P kt et h b0 w0) (hs : SatC w0 φ S a.tmps w) (o : Oper) (hk : opM G P kt et h o.op S k)
    (hn : ∀ w0' v w', WM G P kt et h b0 w0' → Left w0' S a.tmps k v w' → K (a.put o.dst v) w') : o.wpIn (fw none) N P a w K Q := by
  have plain : opW G P o.op S k → o.wpIn (fw none) N P a w K Q := fun h => opW_ok hw.glob hs o h fun v w' hl => hn w0 v w' hw hl
  have came : ∀ {w' : World}, (∀ b, b < b0.w.heap.size → w'.heap[b]? = w.heap[b]?) → w.heap.size ≤ w'.heap.size → w'.os = w.os → w'.tape = w.tape → w'.output = w.output → Below b0.w.heap.size b0.w w' := fun h1 h2 h3 h4 h5 => by
    have g := hw.below hs
    exact ⟨h3.trans g.os, h4.trans g.tape, h5.trans g.output, Nat.le_trans g.size h2, fun b hb => (h1 b hb).trans (g.block b hb)⟩
  obtain ⟨dst, op, ty, pos, after, guard⟩ := o
  cases op with
  | makeMap t n =>
    cases n with
    | some _ => exact plain hk
    | none =>
      obtain ⟨hT, hk⟩ := hk
      obtain ⟨h0, hk⟩ := hk.get
      have hφ : φ 1000000 = (none, 0) := by rw [hs.pin 1000000 (Nat.le_refl _), w0.loc0]
      have hz : (w.alloc (.map #[] 0)).heap.size = w.heap.size + 1 := by rw [World.size_alloc]
      have hmk : (Instr.makeMap t none).run P w = .ok (.map (some w.heap.size)) (w.alloc (.map #[] 0)) := rfl
      have hb : ∀ b, b < w.heap.size → (w.alloc (.map #[] 0)).heap[b]? = w.heap[b]? := fun b hb => (((Below.refl w.heap.size w).alloc (Nat.le_refl _) (.map #[] 0)).block b hb)
      obtain ⟨w1, φ1, hs1, e1, e2, e3, e4, e5, e6, e7⟩ := gh_own (w' := w.alloc (.map #[] 0)) hs (by omega) (fun b h1 _ => hb b h1) hw.glob hφ w.heap.size 0 (by decide) S.env (fun _ _ h => h) S.own (fun _ _ h => h)
      refine wp_val (v := .map (some w.heap.size)) (w' := w.alloc (.map #[] 0)) (by intro c h; cases h) (by simp [execOp, hmk]) (hn w1 _ _ ⟨e2, fun b hb => by obtain ⟨id, c, g1, g2⟩ := e6 b hb; exact hw.ownGe hs g1 g2, ?_, fun v hv => ?_⟩ ⟨φ1, _, _, hk w.heap.size, hs1, .ro .mpr, rfl⟩)
      · rw [e1]; exact came (fun b hb' => hb b (Nat.lt_of_lt_of_le hb' (Nat.le_trans hw.came.size hs.below.size))) (by omega) rfl rfl rfl
      · rw [e3] at hv; cases hv
        refine ⟨w.heap.size, 0, rfl, e4, ?_, ?_, Nat.le_trans hw.came.size hs.below.size⟩
        · rw [e1, h0]; exact World.ownsMap_made w P kt (plainElem P et)
        · rw [e5]; rintro ⟨_, h⟩; omega
  | lookup t m x ok =>
    cases ok with
    | false => exact plain hk
    | true =>
      obtain ⟨hT, hk⟩ := hk
      obtain ⟨dm, hk, hdm⟩ := evW_ok hw.glob hs hk
      obtain ⟨dx, hk, hdx⟩ := evW_ok hw.glob hs hk
      obtain ⟨c, hc, r, i, x', rfl, rfl, rfl, hk⟩ := lkoW_ok hk.get
      obtain ⟨hφ, hm, hnb, hr0, hrl⟩ := hw.read hs hc
      have hme := hdm.mpr_inv
      obtain ⟨hxe, hx1, hx2⟩ : a.eval x = .int .i64 x' ∧ _ ∧ _ := by obtain ⟨h1, h2⟩ := hdx.int_inv; exact ⟨h1, h2.1, h2.2⟩
      obtain ⟨v, ps, hrun, hv⟩ := hm.look_ok (Maps.int_keyed hT.2.1) hT.1 (hT.2.2.2 w) (plainElem_int hT.2.2.1 (by decide)) (key := .int .i64 x') (kl := .int .i64 x') (Maps.keyOf_int_mk hT.2.1 (by simp [Lit.wf]; exact ⟨hx1, hx2⟩))
      obtain ⟨y, rfl, hy, hyw⟩ := plainElem_int_inv hT.2.2.1 hv
      obtain ⟨d1, d2⟩ := datM_at (h i) x'
      simp only [Prod.mk.injEq] at hy
      have hy2 : (lkM (h i) x').getD 0 = y := by have := hy.1; rw [d1] at this; injection this with this; injection this
      refine wp_val (v := .tuple #[.int .i64 y, .bool (Maps.has (datM (h i)) (.int .i64 x'))]) (w' := w) (by intro c h; cases h) (by simp [execOp, hme, hxe, hrun, Result.andThen]) (hn w0 _ _ hw ⟨φ, _, _, hk, hs, .ro (.tup rfl fun j u d hu hd => ?_), rfl⟩)
      match j with
      | 0 => simp at hu hd; subst hu hd; rw [hy2]; exact .int (by simp [Lit.wf] at hyw; exact hyw.1) (by simp [Lit.wf] at hyw; exact hyw.2)
      | 1 => simp at hu hd; subst hu hd; rw [d2]; exact .bool
      | j + 2 => simp at hu
  | mapUpdate t m x v =>
    obtain ⟨hT, hk⟩ := hk
    obtain ⟨dm, hk, hdm⟩ := evW_ok hw.glob hs hk
    obtain ⟨dx, hk, hdx⟩ := evW_ok hw.glob hs hk
    obtain ⟨dv, hk, hdv⟩ := evW_ok hw.glob hs hk
    obtain ⟨c, hc, r, i, x', v', T, O, rfl, rfl, rfl, rfl, hh, hi, hE, hO, hk⟩ := lkoW_ok hk.get
    obtain ⟨hφ, hm, hnb, hr0, hrl⟩ := hw.read hs hc
    have hme := hdm.mpr_inv
    obtain ⟨hxe, hx1, hx2⟩ : a.eval x = .int .i64 x' ∧ _ ∧ _ := by obtain ⟨h1, h2⟩ := hdx.int_inv; exact ⟨h1, h2.1, h2.2⟩
    obtain ⟨hve, hv1, hv2⟩ : a.eval v = .int .i64 v' ∧ _ ∧ _ := by obtain ⟨h1, h2⟩ := hdv.int_inv; exact ⟨h1, h2.1, h2.2⟩
    obtain ⟨w', hrun, hm', hg⟩ := hm.update (Maps.int_keyed hT.2.1) hT.1 (by show i < 9223372036854775807; omega) (key := .int .i64 x') (val := .int .i64 v') (kl := .int .i64 x') (d := .lit (.int .i64 v')) (ps := []) (Maps.keyOf_int_mk hT.2.1 (by simp [Lit.wf]; exact ⟨hx1, hx2⟩)) (plainElem_int hT.2.2.1 (by simp [Lit.wf]; exact ⟨hv1, hv2⟩))
    have hun : ∀ b, b < w.heap.size → b ≠ r → w'.heap[b]? = w.heap[b]? := fun b hb hne => hg.block b hb (by simpa using hne)
    obtain ⟨w1, φ1, hs1, e1, e2, e3, e4, e5, e6, e7⟩ := gh_own (w' := w') hs hg.size (fun b h1 h2 => hun b h1 fun e => hnb (e ▸ h2)) hw.glob hφ r (i + 1) (by omega) T (wkE_ok hE) O (wkO_ok hO)
    refine wp_skp (w' := w') (by intro c h; cases h) (by simp only [execOp, Sem.run_bind, hme, hxe, hve, hrun]; rfl) (hn w1 _ _ ⟨e2, fun b hb => by obtain ⟨id, c, g1, g2⟩ := e6 b hb; exact hw.ownGe hs g1 g2, ?_, fun v hv => ?_⟩ ⟨φ1, _, _, hk, hs1, .ro (.any _), rfl⟩)
    · rw [e1]
      exact came (fun b hb' => hun b (Nat.lt_of_lt_of_le hb' (Nat.le_trans hw.came.size hs.below.size)) (by omega)) hg.size hg.os hg.tape hg.output
    · rw [e3] at hv; cases hv
      refine ⟨r, i + 1, rfl, e4, ?_, fun h => hnb ((e5 r).1 h).1, hr0⟩
      rw [e1]
      have e8 : datM (h (i + 1)) = (datM (h i)).put (.int .i64 x') (.lit (.int .i64 v')) := by rw [hh]; unfold datM; rw [List.foldl_append]; rfl
      rw [e8]; exact hm'
  | _ => exact plain hk

theorem opsM_ok {ops : List Oper} : ∀ {r : List Oper} {w0 : Bas} {S : St} {a : Act} {w : World} {φ : Loc} {k : St → Prop}, WM G P kt et h b0 w0 → SatC w0 φ S a.tmps w → opsM G P kt et h ops r S k →
    (∀ w0' S' a' w' φ', WM G P kt et h b0 w0' → k S' → SatC w0' φ' S' a'.tmps w' → S'.n = S.n → a'.defers = a.defers → Q .normal a' w') → wpListIn (fw none) N P ops.toArray Q r a w
  | [], w0, S, a, w, φ, k, hw, hs, h, hn => hn w0 _ _ _ _ hw h hs rfl rfl
  | o :: rest, w0, S, a, w, φ, k, hw, hs, h, hn => by
    unfold wpListIn
    rcases grdW_ok hs h with ⟨hwd, S1, h1, n1, hs1⟩ | ⟨hwd, S1, h1, n1, hs1⟩
    · rw [if_pos hwd]
      refine opM_ok hw hs1 o h1 ?_
      rintro w0' v w' hw' ⟨φ', d, S2, h2, hs2, hr, n2⟩
      obtain ⟨S3, h3, n3, hs3⟩ := putW_ok hs2 hr h2
      exact opsM_ok (a := a.put o.dst v) hw' (hs3 a.defers) h3 fun w0'' S' a' w' φ' hw'' hk hs' hnn hd => hn w0'' S' a' w' φ' hw'' hk hs' (by rw [hnn, n3, n2, n1]) (by rw [hd, put_defers])
    · rw [if_neg (by rw [hwd]; simp)]
      obtain ⟨S3, h3, n3, hs3⟩ := putW_ok hs1 (v := undef) (.ro (.tup (ds := []) rfl fun i v d hv => by simp at hv)) h1
      refine ⟨fun _ _ => trivial, ?_⟩
      exact opsM_ok (a := a.put o.dst undef) hw (hs3 a.defers) h3 fun w0' S' a' w' φ' hw' hk hs' hnn hd => hn w0' S' a' w' φ' hw' hk hs' (by rw [hnn, n3, n1]) (by rw [hd, put_defers])

structure KQM (G : Glob) (P : Program) (kt et : TypeId) (h : Nat → List (Int × Int)) (b0 : Bas) (n : Nat) (df : List Deferred) (K : Ex → St → Prop) (Q : Exit → Act → World → Prop) : Prop where
  nrm : ∀ {w0 S a w φ}, WM G P kt et h b0 w0 → K .nrm S → SatC w0 φ S a.tmps w → S.n = n → a.defers = df → Q .normal a w
  ext : ∀ {w0 i S a w φ}, WM G P kt et h b0 w0 → K (.ext i) S → SatC w0 φ S a.tmps w → S.n = n → a.defers = df → Q (.exit i) a w
  rt : ∀ {w0 S a w φ}, WM G P kt et h b0 w0 → K .rt S → SatC w0 φ S a.tmps w → S.n = n → a.defers = df → Q .ret a w

theorem codeM_ok : ∀ (c : Code) {w0 : Bas} {S : St} {a : Act} {w : World} {φ : Loc} {K : Ex → St → Prop} {Q : Exit → Act → World → Prop},
    WM G P kt et h b0 w0 → SatC w0 φ S a.tmps w → codeM G P kt et h c S K → KQM G P kt et h b0 S.n a.defers K Q → c.wpIn (fw none) N P Q a w := by
  intro c
  induction c with
  | skip => intro w0 S a w φ K Q hw hs h q; exact wpIn_skip (q.nrm hw h hs rfl rfl)
  | label l => intro w0 S a w φ K Q hw hs h q; exact wpIn_label (q.nrm hw h hs rfl rfl)
  | exit id => intro w0 S a w φ K Q hw hs h q; exact wpIn_exit (q.ext hw h hs rfl rfl)
  | ret => intro w0 S a w φ K Q hw hs h q; exact wpIn_ret (q.rt hw h hs rfl rfl)
  | region id ops draw =>
    intro w0 S a w φ K Q hw hs h q
    cases draw with
    | false =>
      refine wpIn_region_list ?_
      have := opsM_ok (Q := Q) (N := N) hw hs h fun w0' S' a' w' φ' hw' hk hs' hn hd => q.nrm hw' hk hs' hn hd
      simpa using this
    | true =>
      obtain ⟨hm, h⟩ := h
      rcases h.get with h | ⟨m, h1, h2, h3, h⟩ | ⟨m, hid, h1, h2, h⟩
      · have := rgnT_ok (Q := Q) (N := N) (id := id) (r := none) hw.glob hm hs h fun S' a' w' φ' hk hs' hn hd => q.nrm hw hk hs' hn hd
        simpa using this
      · have := drw_tail (r := none) (N := N) (Q := Q) (id := id) (kt := fun S => opsM G P kt et _ ops.toList (ops.toList.drop m) S (K .nrm)) hw.glob hm h1 h2 h3 hs h fun S' a' w' φ' hk hs' hn hd =>
          opsM_ok hw hs' hk fun w0'' S'' a'' w'' φ'' hw'' hk'' hs'' hn'' hd'' => q.nrm hw'' hk'' hs'' (hn''.trans hn) (hd''.trans hd)
        simpa using this
      · have := drx_tail (r := none) (N := N) (Q := Q) (id := id) (kt := fun S => opsM G P kt et _ ops.toList (ops.toList.drop m) S (K .nrm)) hw.glob hm h1 h2 hs h fun S' a' w' φ' hk hs' hn hd =>
          opsM_ok hw hs' hk fun w0'' S'' a'' w'' φ'' hw'' hk'' hs'' hn'' hd'' => q.nrm hw'' hk'' hs'' (hn''.trans hn) (hd''.trans hd)
        simpa using this
  | seq x y ihx ihy =>
    intro w0 S a w φ K Q hw hs h q
    refine wpIn_seq (ihx hw hs h ⟨fun {w0' S' a' w' φ'} hw' h1 hs' hn hd => ?_, fun hw' h1 hs' hn hd => q.ext hw' h1 hs' hn hd, fun hw' h1 hs' hn hd => q.rt hw' h1 hs' hn hd⟩)
    exact ihy hw' hs' h1 (by rw [hn, hd]; exact q)
  | cond c x y ihx ihy =>
    intro w0 S a w φ K Q hw hs h q
    obtain ⟨d, h, hd⟩ := evW_ok hw.glob hs h
    cases d with
    | bool t => exact wpIn_cond_split hd.bool_inv (fun e => ihx hw hs (h.1 e) q) (fun e => ihy hw hs (h.2 e) q)
    | _ => exact h.elim
  | block id c ih =>
    intro w0 S a w φ K Q hw hs h q
    refine wpIn_block (ih hw hs h ⟨fun hw' h1 hs' hn hd => q.nrm hw' h1 hs' hn hd, fun {w0' i S' a' w' φ'} hw' h1 hs' hn hd => ?_, fun hw' h1 hs' hn hd => q.rt hw' h1 hs' hn hd⟩)
    simp only [Exit.inBlock]
    split
    · rename_i e; exact q.nrm hw' (h1.1 e) hs' hn hd
    · rename_i e; exact q.ext hw' (h1.2 e) hs' hn hd
  | loop c ih =>
    intro w0 S a w φ K Q hw hs hl q
    obtain ⟨ads, α, I, R, m, h0, hB⟩ := hl
    obtain ⟨φ', S', ⟨x, hR, hwk⟩, hs', hn'⟩ := adoptW_ok hs h0
    have key : ∀ n (x : α) w0 a' w' φ', m x < n → R x → WM G P kt et h b0 w0 → SatC w0 φ' (I x) a'.tmps w' → (I x).n = S.n → a'.defers = a.defers → Code.roundsIn (fw none) N P c Q n a' w' := by
      intro n
      induction n with
      | zero => intro x w0 a' w' φ' hm; omega
      | succ n ihn =>
        intro x w0 a' w' φ' hm hR hw1 hs1 hn1 hd1
        rw [roundsIn_succ]
        refine ih hw1 hs1 (hB x hR) ⟨fun {w02 S2 a2 w2 φ2} hw2 h1 hs2 hn2 hd2 => ?_, fun hw2 h1 hs2 hn2 hd2 => q.ext hw2 h1 hs2 (by rw [hn2, hn1]) (by rw [hd2, hd1]), fun hw2 h1 hs2 hn2 hd2 => q.rt hw2 h1 hs2 (by rw [hn2, hn1]) (by rw [hd2, hd1])⟩
        obtain ⟨y, hy, hmy, hwk⟩ := h1
        exact ihn y w02 a2 w2 φ2 (by omega) hy hw2 (wkW_ok hs2 hwk) (by rw [hwk.1, hn2, hn1]) (by rw [hd2, hd1])
    exact wpIn_loop_rounds (m x + 1) (key _ x w0 a w φ' (by omega) hR hw (wkW_ok hs' hwk) (by rw [hwk.1, hn']) rfl)
  | _ => intro w0 S a w φ K Q hw hs h q; exact h.elim

/-- A function that makes such a map, out of its body: what it returns is plain. -/
theorem Fn.mkM {f : FuncId} {fn : Func} {c : Code} {ds : List D} {d : D} {n : Nat} {rs : Array ResultVar} (kt et : TypeId) (h : Nat → List (Int × Int)) (hf : P.funcs[f]? = some fn) (hb : fn.body = some c) (hn : (fn.name == "runtime.NumGoroutine") = false) (hnt : fn.ntmps = n) (hrs : fn.results = rs)
    (hh : ds.length ≤ n ∧ wfL ds (codeM G P kt et h c ⟨n, 0, envF 0 ds, []⟩ (endK fun S => resLW P rs.toList S fun rds => pack rds = d ∧ ∀ e ∈ rds, flA e))) : Fn G P f ds d := by
  subst hnt hrs
  refine ⟨⟨fn, hf, by rw [hb]; rfl, hn⟩, fun b0 vs hG hL ha => calls_of_wp hf hb ?_⟩
  have h2 := wfL_ok ha hh.2
  have hsz : vs.length ≤ fn.ntmps := by rw [ha.1]; exact hh.1
  let w1 : Bas := ⟨b0.w, ⟨b0.base.mem, fun _ _ => none⟩, b0.G, b0.new, b0.lent, b0.loc, b0.loc0, b0.lb, b0.gok⟩
  refine (wpIn_fw (n := 0)).1 (codeM_ok (h := h) (b0 := b0) c (φ := ⟨b0.loc, w1.base⟩) (w0 := w1) ⟨hG, fun b g => absurd g (hL b), Below.refl _ _, fun v hv => by cases hv⟩ ?_ h2 ?_)
  · refine ⟨Bel.refl w1, by simp; omega, fun id c hc => by simp [lk] at hc, fun id id' c c' b hc => by simp [lk] at hc, fun s d hd => ?_, rfl, fun _ _ => rfl⟩
    obtain ⟨j, rfl, hj⟩ := envF_ok hd
    have hjl : j < vs.length := by rw [ha.1]; exact (List.getElem?_eq_some_iff.1 hj).1
    refine ⟨vs[j], ?_, ?_⟩
    · rw [Nat.zero_add, Array.getElem?_append, if_pos (by simpa using hjl)]
      simp [hjl]
    · refine .ro ((ha.2 j vs[j] d (by simp [hjl]) hj).mono (fun _ _ => rfl) fun b hb => ⟨hb.2, fun id c hc => by simp [lk] at hc, hb.1⟩)
  · have fin : ∀ {w0 : Bas} {S : St} {a : Act} {w : World} {φ : Loc}, WM G P kt et h b0 w0 → (resLW P fn.results.toList S fun rds => pack rds = d ∧ ∀ e ∈ rds, flA e) → SatC w0 φ S a.tmps w → ∃ v, (results fn a.tmps).run P w = .ok v w ∧
        ∃ v', Ending.returned v = .returned v' ∧ RepR w (fun b => b0.base b ∧ b < w.heap.size) v' d ∧ Below b0.w.heap.size b0.w w := by
      intro w0 S a w φ hw h hs
      obtain ⟨rvs, rds, hrun, ⟨rfl, hfl⟩, hl, _, hr⟩ := resLW_ok hs h
      have hb2 : Below b0.w.heap.size b0.w w := hw.below hs
      have hr' : ∀ (i : Nat) (v : Value) (d : D), rvs[i]? = some v → rds[i]? = some d → RepR w (fun b => b0.base b ∧ b < w.heap.size) v d := fun i v d hv hd => by
        have hp := hfl d (List.mem_of_getElem? hd)
        have : isP d = true := by cases d <;> first | rfl | (simp [flA, flS] at hp)
        exact ((hr i v d hv hd).pure this).flA hp
      refine ⟨_, run_results hrun, _, rfl, ?_, hb2⟩
      match rvs, rds, hl with
      | [], [], _ => exact .tup rfl fun i v d hv => by simp at hv
      | [v], [d], _ => exact hr' 0 v d rfl rfl
      | v :: u :: r, d :: e :: q, hl => exact .tup (by simpa using hl) fun i v d hv hd => hr' i v d (by simpa using hv) hd
    refine ⟨fun hw h1 hs hn hd => ?_, fun hw h1 hs hn hd => h1.elim, fun hw h1 hs hn hd => ?_⟩
    · exact ⟨hd, fin hw h1 hs⟩
    · exact ⟨hd, fin hw h1 hs⟩
end
/-! ### The laws by which such code is walked -/
section
variable {G : Glob} {P : Program} {S : St} {k : D → St → Prop} {K : Ex → St → Prop} {kS : St → Prop} {kt et : TypeId} {h : Nat → List (Int × Int)}
theorem z_m_skip : codeM G P kt et h .skip S K = K .nrm S := _root_.id rfl
theorem z_m_region (id : Nat) (r : List Oper) : codeM G P kt et h (.region id r.toArray false) S K = opsM G P kt et h r r S (K .nrm) := by simp [codeM, rgnM]
theorem z_m_region_d (id : Nat) (r : List Oper) : codeM G P kt et h (.region id r.toArray true) S K = (P.follows .mixedOrders = true ∧ hold (rgnMT G P kt et h r S (K .nrm)) (tg _)) := by simp [codeM, rgnM]
theorem z_m_seq (x y : Code) : codeM G P kt et h (.seq x y) S K = codeM G P kt et h x S (seqK (fun S => codeM G P kt et h y S K) K) := _root_.id rfl
theorem z_m_cond (c : Operand) (x y : Code) : codeM G P kt et h (.cond c x y) S K = evW G S c fun d => cndW d (codeM G P kt et h x S K) (codeM G P kt et h y S K) := _root_.id rfl
theorem z_m_block (id : Nat) (c : Code) : codeM G P kt et h (.block id c) S K = codeM G P kt et h c S (blkK id K) := _root_.id rfl
theorem z_m_exit (id : Nat) : codeM G P kt et h (.exit id) S K = K (.ext id) S := _root_.id rfl
theorem z_m_ret : codeM G P kt et h .ret S K = K .rt S := _root_.id rfl
theorem z_m_loop (c : Code) : codeM G P kt et h (.loop c) S K = hold (loopW S (fun S K => codeM G P kt et h c S K) K) (tg _) := (hold_eq _ _).symm
theorem z_om_nil (ops : List Oper) : opsM G P kt et h ops [] S kS = kS S := _root_.id rfl
theorem z_om_plain (ops rest : List Oper) (dst : Option Tmp) (op : Op) (t : TypeId) (pos : String) (after : Array Edge) :
    opsM G P kt et h ops (⟨dst, op, t, pos, after, none⟩ :: rest) S kS = opM G P kt et h op S fun d S => putW dst d S fun S => opsM G P kt et h ops rest S kS := _root_.id rfl
theorem z_om_guard (ops rest : List Oper) (dst : Option Tmp) (op : Op) (t : TypeId) (pos : String) (after : Array Edge) (j : Nat) (want : Bool) :
    opsM G P kt et h ops (⟨dst, op, t, pos, after, some (j, want)⟩ :: rest) S kS = grdW ops (some (j, want)) S (fun S => opM G P kt et h op S fun d S => putW dst d S fun S => opsM G P kt et h ops rest S kS) fun S => putW dst (.tup []) S fun S => opsM G P kt et h ops rest S kS := _root_.id rfl
theorem z_mo_callv (f : Operand) (r : List Operand) (ts : Array TypeId) : opM G P kt et h (.call ⟨.value f, r.toArray, ts⟩) S k = evW G S f fun df => evLW G S r fun ds => funW G P df ds S k := _root_.id rfl
theorem z_mo_callb (b : Builtin) (r : Array Operand) (ts : Array TypeId) : opM G P kt et h (.call ⟨.builtin b, r, ts⟩) S k = opW G P (.call ⟨.builtin b, r, ts⟩) S k := _root_.id rfl
theorem z_mo_move (x : Operand) : opM G P kt et h (.move x) S k = opW G P (.move x) S k := _root_.id rfl
theorem z_mo_assign (x : Operand) : opM G P kt et h (.assign x) S k = opW G P (.assign x) S k := _root_.id rfl
theorem z_mo_pick (c a b : Operand) : opM G P kt et h (.pick c a b) S k = opW G P (.pick c a b) S k := _root_.id rfl
theorem z_mo_binOp (o : BinOp) (t : TypeId) (x y : Operand) (yt : TypeId) : opM G P kt et h (.binOp o t x y yt) S k = opW G P (.binOp o t x y yt) S k := _root_.id rfl
theorem z_mo_extract (x : Operand) (i : Nat) : opM G P kt et h (.extract x i) S k = opW G P (.extract x i) S k := _root_.id rfl
theorem z_mo_alloc (t : TypeId) : opM G P kt et h (.alloc t) S k = opW G P (.alloc t) S k := _root_.id rfl
theorem z_mo_box (t : TypeId) (x : Operand) : opM G P kt et h (.box t x) S k = opW G P (.box t x) S k := _root_.id rfl
theorem z_mo_load (t : TypeId) (x : Operand) : opM G P kt et h (.load t x) S k = opW G P (.load t x) S k := _root_.id rfl
theorem z_mo_store (t : TypeId) (p x : Operand) : opM G P kt et h (.store t p x) S k = opW G P (.store t p x) S k := _root_.id rfl
theorem z_mo_indexAddr (t : TypeId) (x i : Operand) : opM G P kt et h (.indexAddr t x i) S k = opW G P (.indexAddr t x i) S k := _root_.id rfl
theorem z_mo_fieldAddr (t : TypeId) (x : Operand) (i : Nat) : opM G P kt et h (.fieldAddr t x i) S k = opW G P (.fieldAddr t x i) S k := _root_.id rfl
theorem z_mo_map (t : TypeId) : opM G P kt et h (.makeMap t none) S k = (mapT P kt et t ∧ hold (mkmW h S k) (tg _)) := _root_.id rfl
theorem z_mo_lookup (t : TypeId) (m x : Operand) : opM G P kt et h (.lookup t m x true) S k = (mapT P kt et t ∧ evW G S m fun dm => evW G S x fun dx => hold (lkpW h dm dx S k) (tg _)) := _root_.id rfl
theorem z_mo_update (t : TypeId) (m x v : Operand) : opM G P kt et h (.mapUpdate t m x v) S k = (mapT P kt et t ∧ evW G S m fun dm => evW G S x fun dx => evW G S v fun dv => hold (updW h dm dx dv S k) (tg _)) := _root_.id rfl
theorem mkm_mk {n nx : Nat} {env : List (Nat × D)} {own : List (Nat × List D)} {u : Tag (mkmW h ⟨n, nx, env, own⟩ k)} (h0 : h 0 = []) (hk : ∀ r : Nat, k (.mpr r) ⟨n, nx, env, (1000000, [.mpr r, .int .i64 0]) :: own⟩) : hold (mkmW h ⟨n, nx, env, own⟩ k) u := .mk ⟨h0, hk⟩
theorem rgnm_t {l : List Oper} {u : Tag (rgnMT G P kt et h l S kS)} (hk : hold (rgnT G P l S kS) (tg _)) : hold (rgnMT G P kt et h l S kS) u := .mk (.inl hk.get)
/-- .. also such as lay variables and store to them. -/
theorem rgnm_x (m : Nat) (hid : List Nat) {l : List Oper} {n nx : Nat} {env : List (Nat × D)} {own : List (Nat × List D)} {u : Tag (rgnMT G P kt et h l ⟨n, nx, env, own⟩ kS)} (h1 : (decide (m ≤ l.length) && drwB l m) = true)
    (hk : nmRE nx env ∧ nmRO nx own ∧ splitO hid own fun dy ow => drxW G P l n nx ow (l.take m) nx dy [] [] env fun nxt dy' E => apO dy' ow fun o => opsM G P kt et h l (l.drop m) ⟨n, nxt, E, o⟩ kS) : hold (rgnMT G P kt et h l ⟨n, nx, env, own⟩ kS) u := by
  rw [Bool.and_eq_true, decide_eq_true_eq] at h1
  exact .mk (.inr (.inr ⟨m, hid, h1.1, h1.2, hk⟩))
theorem lko_mono {id : Nat} {k1 k2 : List D → Prop} (hk : ∀ c, k1 c → k2 c) : ∀ {o : List (Nat × List D)}, lkoW id o k1 → lkoW id o k2
  | [], hh => hh
  | (s, d) :: r, hh => by
    rw [lkoW_cons] at hh ⊢
    split
    · rename_i e; rw [if_pos e] at hh; exact hk _ hh
    · rename_i e; rw [if_neg e] at hh; exact lko_mono hk hh
/-- It is looked into: i: how often it was stored into. -/
theorem lkp_mk (i : Nat) {r : Nat} {x : Int} {u : Tag (lkpW h (.mpr r) (.int .i64 x) S k)} (ho : lkoW 1000000 S.own fun c => c = [.mpr r, .int .i64 i]) (hk : k (.tup [.int .i64 ((lkM (h i) x).getD 0), .bool (lkM (h i) x).isSome]) S) : hold (lkpW h (.mpr r) (.int .i64 x) S k) u :=
  .mk (lko_mono (fun c hc => ⟨r, i, x, rfl, rfl, hc, hk⟩) ho)
/-- It is stored into; T, O: what is kept of what is known. -/
theorem upd_mk (i : Nat) (T : List (Nat × D)) (O : List (Nat × List D)) {r : Nat} {x v : Int} {n nx : Nat} {env : List (Nat × D)} {own : List (Nat × List D)} {u : Tag (updW h (.mpr r) (.int .i64 x) (.int .i64 v) ⟨n, nx, env, own⟩ k)} (ho : lkoW 1000000 own fun c => c = [.mpr r, .int .i64 i]) (hh : h (i + 1) = h i ++ [(x, v)]) (hi : (i : Int) + 1 ≤ 9223372036854775807)
    (hk : wkE env T ∧ wkO own O ∧ k .any ⟨n, nx, T, (1000000, [.mpr r, .int .i64 ((i + 1 : Nat) : Int)]) :: O⟩) : hold (updW h (.mpr r) (.int .i64 x) (.int .i64 v) ⟨n, nx, env, own⟩ k) u :=
  .mk (lko_mono (fun c hc => ⟨r, i, x, v, T, O, rfl, rfl, rfl, hc, hh, hi, hk.1, hk.2.1, hk.2.2⟩) ho)
end
end Go.Abs
