/-
  AN ABSTRACT WALK, fourteenth text: the operation in the machine; regions in the order of the text; code; contracts from bodies.
-/
import Derived.TacticsIn
import Derived.OrdersIn
import Derived.Test.YtdjfnipabekkaaaAbs13
namespace Go.Abs
open Go.RowKit (Below)

/-! ### Calls -/
def evLW (G : Glob) (S : St) : List Operand → (List D → Prop) → Prop
  | [], k => k []
  | x :: r, k => evW G S x fun d => evLW G S r fun ds => k (d :: ds)
theorem evLW_ok {G : Glob} {w0 : Bas} {w : World} {φ : Loc} {S : St} {a : Act} (hG : GOk G w0) (hs : SatC w0 φ S a.tmps w) : ∀ {xs : List Operand} {k : List D → Prop}, evLW G S xs k →
    ∃ ds, k ds ∧ (xs.map a.eval).length = ds.length ∧ ∀ (i : Nat) (v : Value) (d : D), (xs.map a.eval)[i]? = some v → ds[i]? = some d → Rep φ w (FSx φ S.own w) v d
  | [], k, h => ⟨[], h, rfl, fun i v d hv => by simp at hv⟩
  | x :: r, k, h => by
    obtain ⟨d, h, hd⟩ := evW_ok hG hs h
    obtain ⟨ds, hk, hl, hr⟩ := evLW_ok hG hs h
    refine ⟨d :: ds, hk, by simpa using hl, fun i v e hv he => ?_⟩
    cases i with
    | zero => simp at hv he; subst hv; subst he; exact hd
    | succ i => exact hr i v e (by simpa using hv) (by simpa using he)
def evAW (G : Glob) (S : St) (xs : Array Operand) (k : List D → Prop) : Prop := evLW G S xs.toList k
theorem evAW_mk (G : Glob) (S : St) (l : List Operand) (k : List D → Prop) : evAW G S l.toArray k = evLW G S l k := rfl
def evOW (G : Glob) (S : St) (x : Option Operand) (k : Option D → Prop) : Prop := match x with | none => k none | some x => evW G S x fun d => k (some d)

/-- Data that leads to no memory. -/
def flS : D → Bool
  | .int _ _ | .bool _ | .str _ | .nils | .any => true
  | _ => false
def flA : D → Prop
  | .agg cs => ∀ c ∈ cs, flS c = true
  | d => flS d = true
def flD : D → Prop
  | .tup ds => ∀ d ∈ ds, flA d
  | d => flA d
theorem RepR.flS {w w' : World} {F F' : Nat → Prop} {v : Value} {d : D} (h : RepR w F v d) (hf : Abs.flS d = true) : RepR w' F' v d := by
  cases h with
  | any => exact .any _
  | int a b => exact .int a b
  | bool => exact .bool
  | str a b => exact .str a b
  | nils => exact .nils
  | _ => simp [Abs.flS] at hf
theorem RepR.flA {w w' : World} {F F' : Nat → Prop} {v : Value} {d : D} (h : RepR w F v d) (hf : Abs.flA d) : RepR w' F' v d := by
  cases d with
  | agg cs => cases h with | agg a b c => exact .agg a b fun i v d hv hd => (c i v d hv hd).flS (hf d (List.mem_of_getElem? hd))
  | _ => exact h.flS hf
theorem RepR.flD {w w' : World} {F F' : Nat → Prop} {v : Value} {d : D} (h : RepR w F v d) (hf : Abs.flD d) : RepR w' F' v d := by
  cases d with
  | tup cs => cases h with | tup a c => exact .tup a fun i v d hv hd => (c i v d hv hd).flA (hf d (List.mem_of_getElem? hd))
  | _ => exact h.flA hf

def lentW (b : Bool) (A : Prop) : Prop := b = true → A
theorem lentW_false (A : Prop) : lentW false A = True := by simp [lentW]
theorem lentW_true (A : Prop) : lentW true A = A := by simp [lentW]

/-! ### An own block is from here on only read -/
def frzD (id : Nat) (c : List D) (d : D) (k : D → Prop) : Prop :=
  match d with
  | .ptr i off => (i = id → k (.rop c off)) ∧ (¬ i = id → k (.ptr i off))
  | .osl i sz n => (i = id → c.length = n * sz ∧ k (.sl sz n c)) ∧ (¬ i = id → k (.osl i sz n))
  | .osw i off sz n => (i = id → off + n * sz ≤ c.length ∧ k (.sl sz n ((c.drop off).take (n * sz)))) ∧ (¬ i = id → k (.osw i off sz n))
  | .oag _ | .ofn _ _ => k .any
  | d => k d
def frzE (id : Nat) (c : List D) : List (Nat × D) → (List (Nat × D) → Prop) → Prop
  | [], k => k []
  | (s, d) :: r, k => frzD id c d fun d' => frzE id c r fun r' => k ((s, d') :: r')
def frzC (id : Nat) (c : List D) : List D → (List D → Prop) → Prop
  | [], k => k []
  | d :: r, k => frzD id c d fun d' => frzC id c r fun r' => k (d' :: r')
def frzO (id : Nat) (c : List D) : List (Nat × List D) → (List (Nat × List D) → Prop) → Prop
  | [], k => k []
  | (i, x) :: r, k => (i = id → frzO id c r k) ∧ (¬ i = id → frzC id c x fun x' => frzO id c r fun r' => k ((i, x') :: r'))
def frzW (id : Nat) (S : St) (k : St → Prop) : Prop :=
  lkoW id S.own fun c => allP c ∧ frzE id c S.env fun env' => frzO id c S.own fun own' => k ⟨S.n, S.nx, env', own'⟩

theorem frzD_ok {id : Nat} {c : List D} {d : D} {k : D → Prop} (h : frzD id c d k) : ∃ d', k d' ∧ frzD id c d (fun x => x = d') := by
  cases d <;> simp only [frzD] at h ⊢ <;> first | exact ⟨_, h, rfl⟩ | skip
  · rename_i i off
    by_cases e : i = id
    · exact ⟨_, h.1 e, fun _ => rfl, fun h => absurd e h⟩
    · exact ⟨_, h.2 e, fun h => absurd h e, fun _ => rfl⟩
  · rename_i i sz n
    by_cases e : i = id
    · exact ⟨_, (h.1 e).2, fun _ => ⟨(h.1 e).1, rfl⟩, fun h => absurd e h⟩
    · exact ⟨_, h.2 e, fun h => absurd h e, fun _ => rfl⟩
  · rename_i i off sz n
    by_cases e : i = id
    · exact ⟨_, (h.1 e).2, fun _ => ⟨(h.1 e).1, rfl⟩, fun h => absurd e h⟩
    · exact ⟨_, h.2 e, fun h => absurd h e, fun _ => rfl⟩
theorem frzE_ok {id : Nat} {c : List D} : ∀ {env : List (Nat × D)} {k : List (Nat × D) → Prop}, frzE id c env k → ∃ env', k env' ∧ ∀ s d', lk s env' = some d' → ∃ d, lk s env = some d ∧ frzD id c d (fun x => x = d')
  | [], k, h => ⟨[], h, fun s d' hd => by simp [lk] at hd⟩
  | (t, d) :: r, k, h => by
    obtain ⟨d', h, hd⟩ := frzD_ok h
    obtain ⟨r', h, hr⟩ := frzE_ok h
    refine ⟨_, h, fun s e he => ?_⟩
    simp only [lk] at he ⊢
    split at he
    · rename_i e1; cases he; exact ⟨d, by rw [if_pos e1], hd⟩
    · rename_i e1; obtain ⟨x, hx, hx2⟩ := hr s e he; exact ⟨x, by rw [if_neg e1]; exact hx, hx2⟩
theorem frzC_ok {id : Nat} {c : List D} : ∀ {x : List D} {k : List D → Prop}, frzC id c x k → ∃ x', k x' ∧ x'.length = x.length ∧ ∀ (j : Nat) (d' : D), x'[j]? = some d' → ∃ d, x[j]? = some d ∧ frzD id c d (fun x => x = d')
  | [], k, h => ⟨[], h, rfl, fun j d' hd => by simp at hd⟩
  | d :: r, k, h => by
    obtain ⟨d', h, hd⟩ := frzD_ok h
    obtain ⟨r', h, hl, hr⟩ := frzC_ok h
    refine ⟨_, h, by simp [hl], fun j e he => ?_⟩
    cases j with
    | zero => simp at he; subst he; exact ⟨d, rfl, hd⟩
    | succ j => obtain ⟨q, q1, q2⟩ := hr j e (by simpa using he); exact ⟨q, by simpa using q1, q2⟩
theorem frzO_ok {id : Nat} {c : List D} : ∀ {own : List (Nat × List D)} {k : List (Nat × List D) → Prop}, frzO id c own k → ∃ own', k own' ∧ ∀ i x', lk i own' = some x' → i ≠ id ∧ ∃ x, lk i own = some x ∧ x'.length = x.length ∧ ∀ (j : Nat) (d' : D), x'[j]? = some d' → ∃ d, x[j]? = some d ∧ frzD id c d (fun x => x = d')
  | [], k, h => ⟨[], h, fun s d' hd => by simp [lk] at hd⟩
  | (j, x) :: r, k, h => by
    by_cases e : j = id
    · obtain ⟨own', hk, ho⟩ := frzO_ok (h.1 e)
      refine ⟨own', hk, fun i x hx => ?_⟩
      obtain ⟨h2, x0, h1, h3⟩ := ho i x hx
      exact ⟨h2, x0, by simp only [lk]; rw [if_neg (by rw [e]; exact h2)]; exact h1, h3⟩
    · obtain ⟨x', h, hl, hx'⟩ := frzC_ok (h.2 e)
      obtain ⟨own', hk, ho⟩ := frzO_ok h
      refine ⟨_, hk, fun i y hy => ?_⟩
      simp only [lk] at hy ⊢
      split at hy
      · rename_i e1; cases hy; exact ⟨by rw [e1]; exact e, x, by rw [if_pos e1], hl, hx'⟩
      · rename_i e1; obtain ⟨h2, x0, h1, h3⟩ := ho i y hy; exact ⟨h2, x0, by rw [if_neg e1]; exact h1, h3⟩
theorem frzD_rep {w0 : Bas} {w : World} {φ : Loc} {S : St} {tmps : Array Value} (hs : SatC w0 φ S tmps w) {id : Nat} {c : List D} {own' : List (Nat × List D)} (hc : lk id S.own = some c) (hp : allP c) (hF : ∀ b, FSx φ S.own w b → FSx φ own' w b) (hB : ∀ b, (φ id).1 = some b → FSx φ own' w b)
    {v : Value} {d d' : D} (hr : Rep φ w (FSx φ S.own w) v d) (hz : frzD id c d (fun x => x = d')) : Rep φ w (FSx φ own' w) v d' := by
  have hr' := hr.mono (fun _ _ => rfl) hF
  cases d with
  | ptr i off =>
    by_cases e : i = id
    · subst e
      have hz := hz.1 rfl; subst hz
      cases hr with
      | ro hr => cases hr
      | ptr hb =>
        obtain ⟨arr, T, fz, h1, h2, h3, h4, h5, h6⟩ := own_cells hs hc hb
        have := RepR.rop (w := w) (F := FSx φ own' w) (b := _) (base := 0) (off := off) (cs := c) (fun j => arr.getD j undef) (hB _ hb)
          (fun j hj => ⟨by rw [Nat.zero_add]; exact h5 j hj, by obtain ⟨d, hd⟩ : ∃ d, c[j]? = some d := ⟨c[j], by simp [hj]⟩; exact (h6 j d hd).2⟩)
          (fun j d hd => ((h6 j d hd).1.pure (hp d (List.mem_of_getElem? hd))).mono (fun _ _ => rfl) hF)
        exact .ro (by simpa using this)
    · have hz := hz.2 e; subst hz; exact hr'
  | osl i sz n =>
    by_cases e : i = id
    · subst e
      obtain ⟨hl, hz⟩ := hz.1 rfl; subst hz
      cases hr with
      | ro hr => cases hr
      | osl0 hb =>
        have : c = [] := List.eq_nil_of_length_eq_zero (by simpa using hl)
        subst this
        exact .ro (.sl0 (by simp [maxLen]))
      | osl hb he hn hm =>
        obtain ⟨arr, T, fz, h1, h2, h3, h4, h5, h6⟩ := own_cells hs hc hb
        exact .ro (.sl (fun j => arr.getD j undef) rfl (hB _ hb) hn hm hl
          (fun j hj => ⟨by rw [Nat.zero_add]; exact h5 j (by omega), by obtain ⟨d, hd⟩ : ∃ d, c[j]? = some d := ⟨c[j]'(by omega), by simp⟩; exact (h6 j d hd).2⟩)
          (fun j d hd => ((h6 j d hd).1.pure (hp d (List.mem_of_getElem? hd))).mono (fun _ _ => rfl) hF))
    · have hz := hz.2 e; subst hz; exact hr'
  | osw i off sz n =>
    by_cases e : i = id
    · subst e
      obtain ⟨hl, hz⟩ := hz.1 rfl; subst hz
      cases hr with
      | ro hr => cases hr
      | osw0 hc => rw [Nat.zero_mul, List.take_zero]; exact .ro (.sl0 hc)
      | osw hb hn hm hsz =>
        obtain ⟨arr, T, fz, h1, h2, h3, h4, h5, h6⟩ := own_cells hs hc hb
        refine .ro (.sl (fun j => arr.getD (off + j) undef) rfl (hB _ hb) hn hm (by simp; omega)
          (fun j hj => ⟨h5 (off + j) (by omega), by obtain ⟨d, hd⟩ : ∃ d, c[off + j]? = some d := ⟨c[off + j]'(by omega), by simp⟩; exact (h6 _ d hd).2⟩)
          (fun j d hd => ?_))
        simp only [List.getElem?_take, List.getElem?_drop] at hd
        split at hd
        · exact ((h6 _ d hd).1.pure (hp d (List.mem_of_getElem? hd))).mono (fun _ _ => rfl) hF
        · cases hd
    · have hz := hz.2 e; subst hz; exact hr'
  | oag cs => simp only [frzD] at hz; subst hz; exact .ro (.any _)
  | ofn f cs => simp only [frzD] at hz; subst hz; exact .ro (.any _)
  | _ => simp only [frzD] at hz; subst hz; exact hr'

theorem frz_ok {w0 : Bas} {w : World} {φ : Loc} {S : St} {tmps : Array Value} (hs : SatC w0 φ S tmps w) {id : Nat} {k : St → Prop} (h : frzW id S k) :
    ∃ S', k S' ∧ SatC w0 φ S' tmps w ∧ S'.n = S.n ∧ ∀ b, FSx φ S.own w b → FSx φ S'.own w b := by
  obtain ⟨c, hc, hp, h⟩ := lkoW_ok h
  obtain ⟨env', h, he⟩ := frzE_ok h
  obtain ⟨own', h, ho⟩ := frzO_ok h
  have ho' : ∀ i x, lk i own' = some x → ∃ x0, lk i S.own = some x0 := fun i x hx => by obtain ⟨_, x0, h1, _⟩ := ho i x hx; exact ⟨x0, h1⟩
  have hF : ∀ b, FSx φ S.own w b → FSx φ own' w b := fun b hb => ⟨hb.1, fun i x hx => by obtain ⟨x0, h0⟩ := ho' i x hx; exact hb.2 i x0 h0, hb.3⟩
  have hB : ∀ b, (φ id).1 = some b → FSx φ own' w b := fun b hb => ⟨(hs.own id c hc).1.lt hb, fun i x hx e => by obtain ⟨hne, x0, h0, _⟩ := ho i x hx; exact hne (hs.inj i id x0 c b h0 hc e hb), (own_FL hs hc hb).1⟩
  refine ⟨_, h, ⟨hs.below, hs.size, fun i x hx => ?_, fun i i' x x' b h1 h2 => ?_, fun s d' hd => ?_, hs.base, hs.pin⟩, rfl, hF⟩
  · obtain ⟨_, x0, h0, hl, hx0⟩ := ho i x hx
    obtain ⟨h1, h2⟩ := hs.own i x0 h0
    refine ⟨?_, h2⟩
    unfold OwnOk at h1 ⊢
    revert h1
    cases (φ i).1 with
    | none =>
      rintro ⟨h, h'⟩
      refine ⟨fun j d hd => ?_, h'⟩
      obtain ⟨d0, e0, hz⟩ := hx0 j d hd
      obtain ⟨v, a1, a2⟩ := h j d0 e0
      exact ⟨v, a1, frzD_rep hs hc hp hF hB a2 hz⟩
    | some b =>
      rintro ⟨arr, T, fz, a1, a2, a3, a4, a5⟩
      refine ⟨arr, T, fz, a1, a2, a3, by rw [hl]; exact a4, fun j v d hv hd => ?_⟩
      obtain ⟨d0, e0, hz⟩ := hx0 j d hd
      exact ⟨frzD_rep hs hc hp hF hB (a5 j v d0 hv e0).1 hz, (a5 j v d0 hv e0).2⟩
  · obtain ⟨x0, h0⟩ := ho' i x h1
    obtain ⟨x0', h0'⟩ := ho' i' x' h2
    exact hs.inj i i' x0 x0' b h0 h0'
  · obtain ⟨d, hd, hz⟩ := he s d' hd
    obtain ⟨v, hv, hr⟩ := hs.env s d hd
    exact ⟨v, hv, frzD_rep hs hc hp hF hB hr hz⟩

/-- .. what it returns lies in new memory. -/
def FnF (G : Glob) (P : Program) (f : FuncId) (ds : List D) (d : D) : Prop :=
  Callable P f ∧ ∀ (b0 : Bas) (vs : List Value), b0.G = G → (∀ b, ¬ b0.lent b) → FArgs b0.w (fun b => b0.base b ∧ b < b0.w.heap.size) vs ds →
    Calls P f vs.toArray b0.w fun e w' => ∃ v, e = .returned v ∧ RepR w' (fun b => b0.w.heap.size ≤ b ∧ b < w'.heap.size) v d ∧ Below b0.w.heap.size b0.w w'
theorem FnF.fn {G : Glob} {P : Program} {f : FuncId} {ds : List D} {d : D} (h : FnF G P f ds d) : Fn G P f ds d :=
  ⟨h.1, fun b0 vs hG hL ha => (h.2 b0 vs hG hL ha).mono fun _ _ ⟨v, h1, h2, h3⟩ => ⟨v, h1, h2.mono (fun _ _ => rfl) fun b hb => ⟨b0.new b hb.1, hb.2⟩, h3⟩⟩
def wkE (env : List (Nat × D)) : List (Nat × D) → Prop
  | [] => True
  | (s, d) :: r => lkW s env (fun d' => d' = d) ∧ wkE env r
theorem wkE_ok {env : List (Nat × D)} : ∀ {l : List (Nat × D)}, wkE env l → ∀ s d, lk s l = some d → lk s env = some d
  | [], _, s, d, h => by simp [lk] at h
  | (t, e) :: r, ⟨h1, h2⟩, s, d, h => by
    simp only [lk] at h
    split at h
    · rename_i e1; cases h; subst e1
      obtain ⟨d', hd, rfl⟩ := lkW_ok h1; exact hd
    · exact wkE_ok h2 s d h
def envF : Nat → List D → List (Nat × D)
  | _, [] => []
  | i, d :: ds => (i, d) :: envF (i + 1) ds
theorem envF_ok {ds : List D} : ∀ {i : Nat} {s : Nat} {d : D}, lk s (envF i ds) = some d → ∃ j, s = i + j ∧ ds[j]? = some d := by
  induction ds with
  | nil => intro i s d h; simp [envF, lk] at h
  | cons e r ih =>
    intro i s d h
    simp only [envF, lk] at h
    split at h
    · rename_i e1; cases h; exact ⟨0, by omega, rfl⟩
    · obtain ⟨j, h1, h2⟩ := ih h; exact ⟨j + 1, by omega, by simpa using h2⟩


/-! ### A frame that is laid aside -/
theorem wkE_get {env : List (Nat × D)} : ∀ {l : List (Nat × D)}, wkE env l → ∀ (i : Nat) (p : Nat × D), l[i]? = some p → lk p.1 env = some p.2
  | [], _, i, p, h => by simp at h
  | (t, e) :: r, ⟨h1, h2⟩, i, p, h => by
    cases i with
    | zero =>
      simp at h; subst h
      obtain ⟨d', hd, rfl⟩ := lkW_ok h1; exact hd
    | succ i => exact wkE_get h2 i p (by simpa using h)
def zpE : List (Nat × D) → List D → List (Nat × D)
  | (s, _) :: r, d :: ds => (s, d) :: zpE r ds
  | _, _ => []
def dropO (id : Nat) : List (Nat × List D) → (List (Nat × List D) → Prop) → Prop
  | [], k => k []
  | (i, c) :: r, k => (id = i → dropO id r k) ∧ (¬ id = i → dropO id r fun r' => k ((i, c) :: r'))
def sndE : List (Nat × D) → List D
  | [] => []
  | (_, d) :: r => d :: sndE r
def noO (id : Nat) : List (Nat × List D) → Prop
  | [] => True
  | (i, _) :: r => ¬ id = i ∧ noO id r
theorem noO_ok {id : Nat} : ∀ {own : List (Nat × List D)}, noO id own → lk id own = none
  | [], _ => rfl
  | (i, c) :: r, h => by simp only [lk]; rw [if_neg h.1]; exact noO_ok h.2
theorem dropO_ok {id : Nat} : ∀ {own : List (Nat × List D)} {k : List (Nat × List D) → Prop}, dropO id own k → ∃ own', k own' ∧ ∀ i, (i = id → lk i own' = none) ∧ (i ≠ id → lk i own' = lk i own)
  | [], k, h => ⟨[], h, fun i => ⟨fun _ => rfl, fun _ => rfl⟩⟩
  | (j, c) :: r, k, h => by
    by_cases e : id = j
    · obtain ⟨own', hk, ho⟩ := dropO_ok (h.1 e)
      refine ⟨own', hk, fun i => ⟨(ho i).1, fun hi => ?_⟩⟩
      simp only [lk]; rw [if_neg (by rw [← e]; exact hi)]; exact (ho i).2 hi
    · obtain ⟨own', hk, ho⟩ := dropO_ok (h.2 e)
      refine ⟨_, hk, fun i => ⟨fun hi => ?_, fun hi => ?_⟩⟩
      · simp only [lk]; rw [if_neg (by rw [hi]; exact e)]; exact (ho i).1 hi
      · simp only [lk]; split
        · rfl
        · exact (ho i).2 hi
theorem zpE_ok : ∀ {T : List (Nat × D)} {cs : List D} {s : Nat} {d : D}, lk s (zpE T cs) = some d → ∃ (i : Nat) (e : D), T[i]? = some (s, e) ∧ cs[i]? = some d
  | [], cs, s, d, h => by simp [zpE, lk] at h
  | (t, e) :: r, [], s, d, h => by simp [zpE, lk] at h
  | (t, e) :: r, c :: cs, s, d, h => by
    simp only [zpE, lk] at h
    split at h
    · rename_i e1; cases h; subst e1; exact ⟨0, e, rfl, rfl⟩
    · obtain ⟨i, e', h1, h2⟩ := zpE_ok h; exact ⟨i + 1, e', by simpa using h1, by simpa using h2⟩
theorem sndE_map : ∀ {T : List (Nat × D)}, sndE T = T.map Prod.snd
  | [] => rfl
  | (_, d) :: r => by simp [sndE, sndE_map]

/-! ### What a function makes: a value that names blocks of its own -/
def shS (k : Nat) : D → D
  | .ptr i o => .ptr (i + k) o
  | .osl i s n => .osl (i + k) s n
  | .osw i o s n => .osw (i + k) o s n
  | d => d
def shD (k : Nat) : D → D
  | .ptr i o => .ptr (i + k) o
  | .osl i s n => .osl (i + k) s n
  | .osw i o s n => .osw (i + k) o s n
  | .oag cs => .oag (cs.map (shS k))
  | d => d
def shO (k : Nat) : List (Nat × List D) → List (Nat × List D)
  | [] => []
  | (i, c) :: r => (i + k, c.map (shS k)) :: shO k r
/-- It names no block but such as have a number below m. -/
def ltS (m : Nat) : D → Prop
  | .ptr i _ | .osl i _ _ | .osw i _ _ _ => i < m
  | .oag _ | .ofn _ _ => False
  | _ => True
def ltL (m : Nat) : List D → Prop
  | [] => True
  | d :: r => ltS m d ∧ ltL m r
def ltD (m : Nat) : D → Prop
  | .oag cs => ltL m cs
  | d => ltS m d
def ltO (m : Nat) : List (Nat × List D) → Prop
  | [] => True
  | (i, c) :: r => i < m ∧ ltL m c ∧ ltO m r
theorem ltL_ok {m : Nat} : ∀ {cs : List D}, ltL m cs → ∀ c ∈ cs, ltS m c
  | [], _, c, h => by simp at h
  | d :: r, h, c, hc => by
    rcases List.mem_cons.1 hc with rfl | hc
    · exact h.1
    · exact ltL_ok h.2 c hc
theorem ltO_ok {m : Nat} : ∀ {O : List (Nat × List D)}, ltO m O → ∀ i c, lk i O = some c → i < m ∧ ltL m c
  | [], _, i, c, h => by simp [lk] at h
  | (j, x) :: r, h, i, c, hc => by
    simp only [lk] at hc
    split at hc
    · rename_i e; cases hc; subst e; exact ⟨h.1, h.2.1⟩
    · exact ltO_ok h.2.2 i c hc
theorem lk_shO {k : Nat} : ∀ {O : List (Nat × List D)} {i : Nat} {c : List D}, lk i (shO k O) = some c → ∃ j c0, i = j + k ∧ lk j O = some c0 ∧ c = c0.map (shS k)
  | [], i, c, h => by simp [shO, lk] at h
  | (j, x) :: r, i, c, h => by
    simp only [shO, lk] at h
    split at h
    · rename_i e; cases h; exact ⟨j, x, e, by simp [lk], rfl⟩
    · rename_i e
      obtain ⟨j', c0, h1, h2, h3⟩ := lk_shO h
      exact ⟨j', c0, h1, by simp only [lk]; rw [if_neg (by omega)]; exact h2, h3⟩
theorem Rep.shS {φ φ2 : Loc} {k m : Nat} (hφ : ∀ i, i < m → φ2 (i + k) = φ i) {w : World} {F : Nat → Prop} {v : Value} {d : D} (h : Rep φ w F v d) (hl : ltS m d) : Rep φ2 w F v (Abs.shS k d) := by
  cases h with
  | ro h =>
    have : Abs.shS k d = d := by cases d <;> first | rfl | cases h
    rw [this]; exact .ro h
  | ptr a => exact .ptr (by rw [hφ _ hl]; exact a)
  | osl0 a => exact .osl0 (by rw [hφ _ hl]; exact a)
  | osl a b c d => exact .osl (by rw [hφ _ hl]; exact a) (by rw [hφ _ hl]; exact b) c d
  | osw0 a => exact .osw0 a
  | osw a b c d => exact .osw (by rw [hφ _ hl]; exact a) b c (by rw [hφ _ hl]; exact d)
  | oag a b c => exact hl.elim
  | ofn a b => exact hl.elim
theorem Rep.shD {φ φ2 : Loc} {k m : Nat} (hφ : ∀ i, i < m → φ2 (i + k) = φ i) {w : World} {F : Nat → Prop} {v : Value} {d : D} (h : Rep φ w F v d) (hl : ltD m d) : Rep φ2 w F v (Abs.shD k d) := by
  cases h with
  | ro h =>
    have : Abs.shD k d = d := by cases d <;> first | rfl | cases h
    rw [this]; exact .ro h
  | ptr a => exact .ptr (by rw [hφ _ hl]; exact a)
  | osl0 a => exact .osl0 (by rw [hφ _ hl]; exact a)
  | osl a b c d => exact .osl (by rw [hφ _ hl]; exact a) (by rw [hφ _ hl]; exact b) c d
  | osw0 a => exact .osw0 a
  | osw a b c d => exact .osw (by rw [hφ _ hl]; exact a) b c (by rw [hφ _ hl]; exact d)
  | @oag vs cs a b c =>
    refine .oag (by simpa using a) b fun i v d hv hd => ?_
    rw [List.getElem?_map] at hd
    cases e : cs[i]? with
    | none => rw [e] at hd; cases hd
    | some d0 =>
      rw [e] at hd
      obtain rfl : Abs.shS k d0 = d := Option.some.inj hd
      exact (c i v d0 hv e).shS hφ (ltL_ok hl d0 (List.mem_of_getElem? e))
  | ofn a b => exact hl.elim
/-- What names only blocks that lie where they lay reads as before. -/
theorem Rep.cgS {φ φ2 : Loc} {w : World} {F : Nat → Prop} {v : Value} {d : D} (h : Rep φ w F v d) (hφ : ∀ i, mnS i d = true → φ2 i = φ i) : Rep φ2 w F v d := by
  cases h with
  | ro h => exact .ro h
  | ptr a => exact .ptr (by rw [hφ _ (by simp [mnS])]; exact a)
  | osl0 a => exact .osl0 (by rw [hφ _ (by simp [mnS])]; exact a)
  | osl a b c d => exact .osl (by rw [hφ _ (by simp [mnS])]; exact a) (by rw [hφ _ (by simp [mnS])]; exact b) c d
  | osw0 a => exact .osw0 a
  | osw a b c d => exact .osw (by rw [hφ _ (by simp [mnS])]; exact a) b c (by rw [hφ _ (by simp [mnS])]; exact d)
  | oag a b c => exact (Rep.oag a b c).at fun i => hφ i rfl
  | ofn a b => exact (Rep.ofn a b).at fun i => hφ i rfl
theorem Rep.cg {φ φ2 : Loc} {w : World} {F : Nat → Prop} {v : Value} {d : D} (h : Rep φ w F v d) (hφ : ∀ i, mn i d = true → φ2 i = φ i) : Rep φ2 w F v d := by
  cases h with
  | ro h => exact .ro h
  | ptr a => exact Rep.cgS (.ptr a) (by simpa [mnS, mn] using hφ)
  | osl0 a => exact Rep.cgS (.osl0 a) (by simpa [mnS, mn] using hφ)
  | osl a b c d => exact Rep.cgS (.osl a b c d) (by simpa [mnS, mn] using hφ)
  | osw0 a => exact .osw0 a
  | osw a b c d => exact Rep.cgS (.osw a b c d) (by simpa [mnS, mn] using hφ)
  | oag a b c => exact .oag a b fun i v d hv hd => (c i v d hv hd).cgS fun j hj => hφ j (by simp only [mn, List.any_eq_true]; exact ⟨d, List.mem_of_getElem? hd, hj⟩)
  | ofn a b => exact .ofn a fun i v d hv hd => (b i v d hv hd).cgS fun j hj => hφ j (by simp only [mn, List.any_eq_true]; exact ⟨d, List.mem_of_getElem? hd, hj⟩)

/-- Names below m, and no others, are named. -/
def FnO (G : Glob) (P : Program) (f : FuncId) (ds : List D) (m : Nat) (d : D) (os : List (Nat × List D)) : Prop :=
  Callable P f ∧ ∀ (b0 : Bas) (vs : List Value), b0.G = G → (∀ b, ¬ b0.lent b) → (∀ i j, b0.base.gh i j = none) → FArgs b0.w (fun b => b0.base b ∧ b < b0.w.heap.size) vs ds →
    Calls P f vs.toArray b0.w fun e w' => ∃ v φ, e = .returned v ∧ Below b0.w.heap.size b0.w w' ∧ φ.base = b0.base ∧ (∀ i c, lk i os = some c → OwnOk w' (FSx φ os w') φ i c ∧ ∀ b, (φ i).1 = some b → b0.w.heap.size ≤ b) ∧
      (∀ i i' c c' b, lk i os = some c → lk i' os = some c' → (φ i).1 = some b → (φ i').1 = some b → i = i') ∧ Rep φ w' (FSx φ os w') v d
/-! ### What names no block from a number on -/
def nmR (a : Nat) (d : D) : Prop := ∀ i, a ≤ i → i < pinB → mn i d = false
def nmRL (a : Nat) (cs : List D) : Prop := ∀ d ∈ cs, nmR a d
def nmRE (a : Nat) : List (Nat × D) → Prop
  | [] => True
  | (_, d) :: r => nmR a d ∧ nmRE a r
def nmRO (a : Nat) : List (Nat × List D) → Prop
  | [] => True
  | (i, c) :: r => (i < a ∨ pinB ≤ i) ∧ nmRL a c ∧ nmRO a r
theorem nmRE_ok {a : Nat} : ∀ {E : List (Nat × D)}, nmRE a E → ∀ t d, lk t E = some d → nmR a d
  | [], _, t, d, h => by simp [lk] at h
  | (s, e) :: r, h, t, d, hd => by
    simp only [lk] at hd
    split at hd
    · cases hd; exact h.1
    · exact nmRE_ok h.2 t d hd
theorem nmRO_ok {a : Nat} : ∀ {O : List (Nat × List D)}, nmRO a O → ∀ i c, lk i O = some c → (i < a ∨ pinB ≤ i) ∧ nmRL a c
  | [], _, t, d, h => by simp [lk] at h
  | (s, e) :: r, h, t, d, hd => by
    simp only [lk] at hd
    split at hd
    · rename_i e1; cases hd; subst e1; exact ⟨h.1, h.2.1⟩
    · exact nmRO_ok h.2.2 t d hd
def apO (o X : List (Nat × List D)) (f : List (Nat × List D) → Prop) : Prop := f (o ++ X)
theorem lk_appO {i : Nat} {A B : List (Nat × List D)} : lk i (A ++ B) = match lk i A with | some c => some c | none => lk i B := by
  induction A with
  | nil => rfl
  | cons x A ih =>
    obtain ⟨s, y⟩ := x
    simp only [List.cons_append, lk]
    split
    · rfl
    · exact ih

def wkO (own : List (Nat × List D)) : List (Nat × List D) → Prop
  | [] => True
  | (s, d) :: r => lkoW s own (fun d' => d' = d) ∧ wkO own r
theorem wkO_ok {env : List (Nat × List D)} : ∀ {l : List (Nat × List D)}, wkO env l → ∀ s d, lk s l = some d → lk s env = some d
  | [], _, s, d, h => by simp [lk] at h
  | (t, e) :: r, ⟨h1, h2⟩, s, d, h => by
    simp only [lk] at h
    split at h
    · rename_i e1; cases h; subst e1
      obtain ⟨d', hd, rfl⟩ := lkoW_ok h1; exact hd
    · exact wkO_ok h2 s d h

/-- What S knows of T's slots and blocks is what T says. -/
def wkW (S T : St) : Prop := T.n = S.n ∧ wkE S.env T.env ∧ wkO S.own T.own

theorem wkW_ok {w0 : Bas} {w : World} {φ : Loc} {S T : St} {tmps : Array Value} (hs : SatC w0 φ S tmps w) (h : wkW S T) : SatC w0 φ T tmps w := by
  obtain ⟨hn, he, ho⟩ := h
  have ho' := wkO_ok ho
  have hF : ∀ b, FSx φ S.own w b → FSx φ T.own w b := fun b hb => ⟨hb.1, fun id c hc => hb.2 id c (ho' id c hc), hb.3⟩
  refine ⟨hs.below, by rw [hn]; exact hs.size, fun id c hc => ?_, fun id id' c c' b h1 h2 => hs.inj id id' c c' b (ho' _ _ h1) (ho' _ _ h2), fun s d hd => ?_, hs.base, hs.pin⟩
  · obtain ⟨h1, h2⟩ := hs.own id c (ho' _ _ hc)
    exact ⟨h1.mono (fun _ _ => rfl) hF fun _ _ => rfl, h2⟩
  · obtain ⟨v, hv, hr⟩ := hs.env s d (wkE_ok he s d hd)
    exact ⟨v, hv, hr.mono (fun _ _ => rfl) hF⟩

def callW0 (G : Glob) (P : Program) (f : FuncId) (ds : List D) (lent : Bool) (S : St) (k : D → St → Prop) : Prop :=
  (∃ d, Fn G P f ds d ∧ lentW lent (flD d) ∧ (wf3 d → k d S)) ∨ (∃ sz n cs, FnS G P f ds sz n cs ∧ lentW lent (∀ c ∈ cs, flS c = true) ∧ (wf3 (.sl sz n cs) → newW S cs fun S' => k (.osl S.nx sz n) S')) ∨
  (∃ d, FnF G P f ds d ∧ (wf3 d → k d S)) ∨
  (lent = false ∧ ∃ m d os, FnO G P f ds m d os ∧ ltD m d ∧ ltO m os ∧ S.nx + m ≤ pinB ∧ nmRE S.nx S.env ∧ nmRO S.nx S.own ∧ apO (shO S.nx os) S.own fun own' => k (shD S.nx d) ⟨S.n, S.nx + m, S.env, own'⟩)
/-- .. and own blocks may be frozen first; or some of what is known forgotten. -/
def callW (G : Glob) (P : Program) (f : FuncId) (ds : List D) (lent : Bool) (S : St) (k : D → St → Prop) : Prop :=
  callW0 G P f ds lent S k ∨ (∃ id, frzW id S fun S' => callW0 G P f ds lent S' k) ∨ ∃ T, wkW S T ∧ callW0 G P f ds lent T k
def funW (G : Glob) (P : Program) (df : D) (ds : List D) (S : St) (k : D → St → Prop) : Prop :=
  match df with
  | .fn f caps => coeLW S ds fun ds' b => callW G P f (ds' ++ caps) b S k
  | .ofn f caps => coeLW S (ds ++ caps) fun ds' b => callW G P f ds' b S k
  | _ => False

def nintW (ty : TY) (A : Prop) : Prop := match ty with | .slice _ | .str => A | _ => False
def slTyW (ty : TY) (k : TypeId → Prop) : Prop := match ty with | .slice e => k e | _ => False
def arTyW (ty : TY) (k : Nat → TypeId → Prop) : Prop := match ty with | .arr n e => k n e | _ => False

def cpyW (S : St) (sz : Nat) (d : D) (m : Nat) (es : List D) (k : D → St → Prop) : Prop :=
  match d with
  | .osl id sz' n => lkoW id S.own fun c => sz' = sz ∧ c.length = n * sz ∧ splW c 0 (es.take (min m n * sz)) fun c' => soW id c' S.own fun own' => k (.int .i64 (min m n : Nat)) ⟨S.n, S.nx, S.env, own'⟩
  | .osw id off sz' n => lkoW id S.own fun c => sz' = sz ∧ off + n * sz ≤ c.length ∧ splW c off (es.take (min m n * sz)) fun c' => soW id c' S.own fun own' => k (.int .i64 (min m n : Nat)) ⟨S.n, S.nx, S.env, own'⟩
  | _ => False

def builtinW (P : Program) (b : Builtin) (ts : List TypeId) (ds : List D) (S : St) (k : D → St → Prop) : Prop :=
  match b, ts, ds with
  | .len, [t], [d] => tyW P t fun ty => lnW ty d fun d => k d S
  | .append, [t, u], [s, x] => tyW P t fun ty => slTyW ty fun e => tyW P u fun tu => nintW tu (szW P e fun sz => byW P e fun by_ => zeroW P e fun z => z.length = sz ∧ srcW S sz x fun m es => appW S sz by_ s m es k)
  | .copy, [t, _], [d, x] => tyW P t fun ty => slTyW ty fun e => szW P e fun sz => srcW S sz x fun m es => cpyW S sz d m es k
  | .max, _, d :: ds => mxW true d ds fun d => k d S
  | .min, _, d :: ds => mxW false d ds fun d => k d S
  | _, _, _ => False

/-! ### One operation -/
def opW (G : Glob) (P : Program) (op : Op) (S : St) (k : D → St → Prop) : Prop :=
  match op with
  | .move x | .assign x => evW G S x fun d => k d S
  | .pick c a b => evW G S c fun dc => match dc with | .bool t => if t = true then evW G S a fun d => k d S else evW G S b fun d => k d S | _ => False
  | .nilCheck x => evW G S x fun d => ncW d (k d S)
  | .binOp op t x y _ => evW G S x fun a => evW G S y fun b => bnW P op t a b fun d => k d S
  | .unOp op _ x => evW G S x fun a => unW op a fun d => k d S
  | .convert s d x => evW G S x fun a => tyW P s fun ts => tyW P d fun td => cvtW P ts td (cvW S ts td a k)
  | .extract x i => evW G S x fun a => exW a i fun d => k d S
  | .alloc t => zeroW P t fun cs => newW S cs fun S' => k (.ptr S.nx 0) S'
  | .box _ x => evW G S x fun d => clW d fun cs => nmC S.nx cs ∧ newW S cs fun S' => k (.ptr S.nx 0) S'
  | .load t p => evW G S p fun d => tyW P t fun ty => szW P t fun sz => agTyW ty fun ag => loadW S d ag sz fun d => k d S
  | .store t p x => evW G S p fun dp => evW G S x fun d => szW P t fun sz => clW d fun ds => ds.length = sz ∧ storeW S dp ds fun S' => k .any S'
  | .indexAddr t x i => evW G S x fun dx => evW G S i fun di => tyW P t fun ty => elTyW ty fun e => szW P e fun sz => ixW ty sz dx di fun d => k d S
  | .fieldAddr t x f => evW G S x fun dx => fldW P t f fun o ft => szW P ft fun n => n ≠ 0 ∧ faW dx o fun d => k d S
  | .field t x f => evW G S x fun dx => fldW P t f fun o ft => szW P ft fun n => tyW P ft fun ty => agTyW ty fun ag => fvW dx ag n o fun d => k d S
  | .index t x i => evW G S x fun dx => evW G S i fun di => tyW P t fun ty => inW P ty dx di fun d => k d S
  | .build t ps => tyW P t fun ty => blTyW P ty (fun e => zeroW P t fun z => szW P e fun sz => bldW G S (fun i k => k (i * sz) sz) ps.toList z fun c => k (.oag c) S)
      (zeroW P t fun z => bldW G S (fun i k => fldW P t i fun o ft => szW P ft fun n => k o n) ps.toList z fun c => k (.oag c) S)
  | .buildSlice t n ps => tyW P t fun ty => slTyW ty fun e => szW P e fun sz => n * sz ≤ 16777216 ∧ n ≤ maxLen ∧ zeroW P e fun z => z.length = sz ∧ repW n z fun c0 => bldW G S (fun i k => k (i * sz) sz) ps.toList c0 fun c => allP c ∧ k (.slx sz n c) S
  | .slice t x lo hi mx => evW G S x fun dx => evOW G S lo fun l => boD l fun l => evOW G S hi fun h => boD h fun h => evOW G S mx fun m => boD m fun m => tyW P t fun ty => seTyW P ty fun sz => slcW (S := S) ty sz dx l h m fun d => k d S
  | .makeSlice t l c => evW G S l fun dl => evW G S c fun dc => match dl, dc with
      | .int _ n, .int _ c => tyW P t fun ty => slTyW ty fun e => c = n ∧ 0 ≤ n ∧ szW P e fun sz => byW P e fun by_ => roomW n.toNat by_ (zeroW P e fun z => z.length = sz ∧ repW n.toNat z fun c0 => newW S c0 fun S' => k (.osl S.nx sz n.toNat) S')
      | _, _ => False
  | .sliceToArrayPointer t x => evW G S x fun d => tyW P t fun ty => arTyW ty fun n _ => s2aW n d fun d => k d S
  | .makeFunc (.func f) first caps => first = #[] ∧ evAW G S caps fun ds => k (.ofn f ds) S
  | .call { callee := .value f, args, .. } => evW G S f fun df => evAW G S args fun ds => funW G P df ds S k
  | .call { callee := .builtin b, args, argTypes } => evAW G S args fun ds => builtinW P b argTypes.toList ds S k
  | _ => False
  where
  cvtW (P : Program) (ts td : TY) (A : Prop) : Prop :=
    match ts, td with
    | .int _, .int _ | .str, .str => A
    | .str, .slice e | .slice e, .str => tyW P e fun te => match te with | .int .u8 => A | _ => False
    | _, _ => False
  agTyW (ty : TY) (k : Bool → Prop) : Prop := match isAg ty with | some b => k b | none => False
  elTyW (ty : TY) (k : TypeId → Prop) : Prop := match ty with | .slice e | .arr _ e => k e | _ => False
  inW (P : Program) (ty : TY) (dx di : D) (k : D → Prop) : Prop :=
    match ty with
    | .str => inxW ty none 0 dx di k
    | .arr _ e => szW P e fun sz => inxW ty (isAg (tyOf P e)) sz dx di k
    | _ => False
  blTyW (P : Program) (ty : TY) (A : TypeId → Prop) (B : Prop) : Prop :=
    match ty with
    | .arr _ e => A e
    | .struct fs => fs.all (fun p => (P.info? p.2).isSome) = true ∧ B
    | _ => False
  seTyW (P : Program) (ty : TY) (k : Nat → Prop) : Prop :=
    match ty with
    | .str => k 1
    | .slice e | .arr _ e => szW P e k
    | _ => False

section
variable {P : Program} {G : Glob} {w0 : Bas} {w : World} {S : St} {a : Act} {K : Act → World → Prop} {Q : Exit → Act → World → Prop} {k : D → St → Prop}

/-- No bound is set on what is called, nor on how deep; 'r': the loop in whose round the code is run, if any. -/
def fw (r : Option Nat) : Fence := { fn := fun _ => True, depth := none, alive := false, round := r }
theorem callsIn_fw {r : Option Nat} {n : Nat} {f : FuncId} {args : Array Value} {w : World} {R : Ending → World → Prop} : CallsIn (fw r) n P f args w R ↔ Calls P f args w R := callsIn_wide (n := n)
theorem wpIn_fw {n : Nat} {c : Code} {Q : Exit → Act → World → Prop} {a : Act} {w : World} : c.wpIn (fw none) n P Q a w ↔ c.wp P Q a w := wpIn_wide (n := n)
variable {r : Option Nat} {N : Nat}
theorem wp_val {o : Oper} {v : Value} {w' : World} (hd : ∀ c, o.op ≠ .defer c) (h : (execOp a.eval o).run P w = .ok (.value v) w') (hk : K (a.put o.dst v) w') : o.wpIn (fw r) N P a w K Q := by
  refine ⟨fun _ _ => trivial, ?_⟩
  rw [Oper.semAt_eq _ _ _ hd, h]; exact hk
theorem wp_skp {o : Oper} {w' : World} (hd : ∀ c, o.op ≠ .defer c) (h : (execOp a.eval o).run P w = .ok .skip w') (hk : K (a.put o.dst undef) w') : o.wpIn (fw r) N P a w K Q := by
  refine ⟨fun _ _ => trivial, ?_⟩
  rw [Oper.semAt_eq _ _ _ hd, h]; exact hk

/-- Where a callee begins. -/
theorem callW0_ok (hG : GOk G w0) {φ : Loc} (hs : SatC w0 φ S a.tmps w) {f : FuncId} {ds : List D} {vs : List Value} {lent : Bool} (ha : FArgs w (FL φ w) vs ds) (ha' : lent = false → FArgs w (FSx φ S.own w) vs ds) (h : callW0 G P f ds lent S k) :
    Callable P f ∧ Calls P f vs.toArray w fun e w' => ∃ v, e = .returned v ∧ Left w0 S a.tmps k v w' := by
  -- the footprint that the callee is given
  have base : ∃ b0 : Bas, b0.w = w ∧ b0.G = G ∧ (∀ b, ¬ b0.lent b) ∧ (lent = false → ∀ i j, b0.base.gh i j = none) ∧ FArgs w (fun b => b0.base b ∧ b < w.heap.size) vs ds ∧ (lent = false → ∀ b, b0.base b → b < w.heap.size → FSx φ S.own w b) := by
    cases lent with
    | false =>
      refine ⟨⟨w, ⟨fun b => FSx φ S.own w b ∨ w.heap.size ≤ b, fun _ _ => none⟩, G, fun b h => .inr h, fun _ => False, fun _ => (none, 0), fun _ => rfl, fun b h => h.elim, fun g cs hg => (glob_ok hG hs hg).mono (fun _ _ => rfl) fun b hb => ⟨.inl hb, hb.1, fun h => h⟩⟩, rfl, rfl, fun _ h => h, fun _ _ _ => rfl, ?_, fun _ b hb hlt => ?_⟩
      · exact ⟨(ha' rfl).1, fun i v d hv hd => ((ha' rfl).2 i v d hv hd).mono (fun _ _ => rfl) fun b hb => ⟨.inl hb, hb.1⟩⟩
      · rcases hb with hb | hb
        · exact hb
        · exact absurd hlt (Nat.not_lt.2 hb)
    | true =>
      exact ⟨⟨w, φ.base, G, fun b h => by rw [hs.base]; exact w0.new b (Nat.le_trans hs.below.size h), fun _ => False, fun _ => (none, 0), fun _ => rfl, fun b h => h.elim, fun g cs hg => (glob_ok hG hs hg).mono (fun _ _ => rfl) fun b hb => ⟨hb.3, hb.1, fun h => h⟩⟩, rfl, rfl, fun _ h => h, (fun h => by cases h), ha, fun h => by cases h⟩
  obtain ⟨b0, rfl, hbG, hbl, hgh, hargs, hlent⟩ := base
  -- what the caller makes of what the callee says of its blocks
  have back : ∀ {w'} {F : Nat → Prop} {v : Value} {d : D}, Below b0.w.heap.size b0.w w' → lent = false → RepR w' (fun b => (b0.base b ∧ b < w'.heap.size) ∧ F b) v d → RepR w' (fun b => FSx φ S.own w' b ∧ F b) v d := by
    intro w' F v d hb hl hr
    refine hr.mono (fun _ _ => rfl) fun b hbb => ⟨?_, hbb.2⟩
    rcases Nat.lt_or_ge b b0.w.heap.size with h | h
    · exact FSx.ext hb (hlent hl b hbb.1.1 h)
    · exact ⟨hbb.1.2, fun id c hc e => absurd ((hs.own id c hc).1.lt e) (Nat.not_lt.2 h), by rw [hs.base]; exact w0.new b (Nat.le_trans hs.below.size h)⟩
  rcases h with ⟨d, ⟨hc, hf⟩, hfl, hk⟩ | ⟨sz, n, cs, ⟨hc, hf⟩, hfl, hk⟩ | ⟨d, ⟨hc, hf⟩, hk⟩ | ⟨hlf, m, d, os, ⟨hc, hf⟩, hld, hlo, hm, hnE, hnO, hk⟩
  · refine ⟨hc, (hf b0 vs hbG hbl hargs).mono ?_⟩
    rintro e w' ⟨v, rfl, hr, hb⟩
    refine ⟨v, rfl, φ, d, S, hk (wf3_of hr), hs.ext hb, .ro ?_, rfl⟩
    cases lent with
    | true => exact hr.flD (hfl rfl)
    | false => exact (back (F := fun _ => True) hb rfl (hr.mono (fun _ _ => rfl) fun b hb => ⟨hb, trivial⟩)).mono (fun _ _ => rfl) fun b hb => hb.1
  · refine ⟨hc, (hf b0 vs hbG hbl hargs).mono ?_⟩
    rintro e w' ⟨v, rfl, ho, hb⟩
    have hwf := wf3_of (ho.rep fun b h1 h2 => ⟨b0.new b h1, h2⟩)
    obtain ⟨hnm, hk⟩ := nmW_ok (hk hwf)
    have hs' := hs.ext hb
    obtain ⟨hl, ho | ⟨b, c, arr, T, fz, rfl, hB, hh, hsz, hn, hm, hfz, hr⟩⟩ := ho
    · obtain ⟨p, rfl, rfl⟩ := ho
      have : cs = [] := List.eq_nil_of_length_eq_zero (by simpa using hl)
      subst this
      exact ⟨_, rfl, _, _, _, hk, hs'.virt hnm, .osl0 (by rw [upd_same]), rfl⟩
    · -- the callee's row becomes the caller's own
      refine ⟨_, rfl, Abs.upd φ S.nx (some b, arr.size), _, _, hk, ?_, ?_, rfl⟩
      · have hbl : b < w'.heap.size := (Array.getElem?_eq_some_iff.1 hh).1
        have hnew : ∀ id c, lk id S.own = some c → (φ id).1 ≠ some b := fun id c hc e => absurd ((hs.own id c hc).1.lt e) (Nat.not_lt.2 hB)
        have old : ∀ {v d}, Rep φ b0.w (FSx φ S.own b0.w) v d → mn S.nx d = false → Rep (Abs.upd φ S.nx (some b, arr.size)) w' (FSx (Abs.upd φ S.nx (some b, arr.size)) ((S.nx, cs) :: S.own) w') v d := by
          intro v d h hm
          refine (h.mono (fun k hk => hb.block k hk.1) fun k hk => ?_).upd hm
          refine ⟨Nat.lt_of_lt_of_le hk.1 hb.size, fun id x hx => ?_, hk.3⟩
          simp only [lk] at hx
          split at hx
          · rename_i e; subst e; rw [upd_same]; intro e; simp only [Option.some.injEq] at e; have := hk.1; omega
          · rename_i e; rw [upd_other _ _ e]; exact hk.2 id x hx
        refine ⟨hs'.below, hs'.size, fun id x hx => ?_, fun id id' x x' k hx hx' hk1 hk2 => ?_, fun s d hd => ?_, hs'.base, fun i hi => by rw [upd_other _ _ (by have := hnm.lt; omega)]; exact hs'.pin i hi⟩
        · simp only [lk] at hx
          split at hx
          · rename_i e; cases hx; subst e
            refine ⟨?_, fun k hk => by rw [upd_same] at hk; cases hk; exact .inl (Nat.le_trans hs.below.size hB)⟩
            unfold OwnOk
            rw [upd_same]
            refine ⟨arr, T, fz, hh, rfl, hfz, ?_, fun i v d hv hd => ⟨.ro ?_, (hr i v d hv hd).2⟩⟩
            · rw [hl, hsz]; exact Nat.mul_le_mul_right _ hn
            · have h1 := (hr i v d hv hd).1
              cases lent with
              | true => exact h1.flS (hfl rfl d (List.mem_of_getElem? hd))
              | false =>
                refine (back (F := fun k => k ≠ b) hb rfl h1).mono (fun _ _ => rfl) fun k hk => ⟨hk.1.1, fun id x hx => ?_, hk.1.3⟩
                simp only [lk] at hx
                split at hx
                · rename_i e; subst e; rw [upd_same]; intro e; simp only [Option.some.injEq] at e; exact hk.2 e.symm
                · rename_i e; rw [upd_other _ _ e]; exact hk.1.2 id x hx
          · rename_i e
            obtain ⟨h1, h2⟩ := hs.own id x hx
            refine ⟨?_, fun k hk => h2 k (by rwa [upd_other _ _ e] at hk)⟩
            unfold OwnOk at h1 ⊢
            rw [upd_other _ _ e]
            split
            · rename_i e1; rw [e1] at h1; exact ⟨fun i d hd => by obtain ⟨v, a1, a2⟩ := h1.1 i d hd; exact ⟨v, a1, old a2 (hnm.nm id x hx e d (List.mem_of_getElem? hd))⟩, h1.2⟩
            · rename_i k e1
              rw [e1] at h1
              obtain ⟨arr', T', fz', k1, k2, k3, k4, k5⟩ := h1
              exact ⟨arr', T', fz', (hb.block _ (Array.getElem?_eq_some_iff.1 k1).1).trans k1, k2, k3, k4, fun i v d hv hd => ⟨old (k5 i v d hv hd).1 (hnm.nm id x hx e d (List.mem_of_getElem? hd)), (k5 i v d hv hd).2⟩⟩
        · have key : ∀ i y, lk i ((S.nx, cs) :: S.own) = some y → (Abs.upd φ S.nx (some b, arr.size) i).1 = some k → (i = S.nx ∧ k = b) ∨ (i ≠ S.nx ∧ lk i S.own = some y ∧ (φ i).1 = some k ∧ k < b0.w.heap.size) := by
            intro i y hi hbi
            simp only [lk] at hi
            split at hi
            · rename_i e; subst e; rw [upd_same] at hbi; cases hbi; exact .inl ⟨rfl, rfl⟩
            · rename_i e; rw [upd_other _ _ e] at hbi; exact .inr ⟨e, hi, hbi, (hs.own i _ hi).1.lt hbi⟩
          rcases key id x hx hk1 with ⟨e1, e2⟩ | ⟨e1, e2, e3, e4⟩ <;> rcases key id' x' hx' hk2 with ⟨f1, f2⟩ | ⟨f1, f2, f3, f4⟩
          · rw [e1, f1]
          · omega
          · omega
          · exact hs.inj id id' x x' k e2 f2 e3 f3
        · rcases lk_purge hd with ⟨rfl, d', hd'⟩ | ⟨hd', hm⟩
          · obtain ⟨v, hv, _⟩ := hs.env s d' hd'
            exact ⟨v, hv, .ro (.any v)⟩
          · obtain ⟨v, hv, hr⟩ := hs.env s d hd'
            exact ⟨v, hv, old hr hm⟩
      · exact .osl (by rw [upd_same]) (by rw [upd_same]; exact hsz.symm) hn hm
  · refine ⟨hc, (hf b0 vs hbG hbl hargs).mono ?_⟩
    rintro e w' ⟨v, rfl, hr, hb⟩
    refine ⟨v, rfl, φ, d, S, hk (wf3_of hr), hs.ext hb, .ro (hr.mono (fun _ _ => rfl) fun b hbb => ?_), rfl⟩
    exact ⟨hbb.2, fun id c hc e => absurd ((hs.own id c hc).1.lt e) (Nat.not_lt.2 hbb.1), by rw [hs.base]; exact w0.new b (Nat.le_trans hs.below.size hbb.1)⟩
  · -- a value that names blocks of the callee's becomes one that names the caller's
    subst hlf
    refine ⟨hc, (hf b0 vs hbG hbl (hgh rfl) hargs).mono ?_⟩
    rintro e w' ⟨v, φo, rfl, hb, hφb, hown, hinj, hr⟩
    have hs' := hs.ext hb
    let φ2 : Loc := ⟨fun i => if S.nx ≤ i ∧ i < S.nx + m then φo (i - S.nx) else φ i, φ.base⟩
    have h2n : ∀ i, i < m → φ2 (i + S.nx) = φo i := fun i hi => by
      show (if S.nx ≤ i + S.nx ∧ i + S.nx < S.nx + m then φo (i + S.nx - S.nx) else φ (i + S.nx)) = φo i
      rw [if_pos ⟨by omega, by omega⟩, Nat.add_sub_cancel]
    have h2o : ∀ i, ¬ (S.nx ≤ i ∧ i < S.nx + m) → φ2 i = φ i := fun i hi => if_neg hi
    have hlt := nmRO_ok hnO
    have hcase : ∀ {i c}, lk i (shO S.nx os ++ S.own) = some c → (∃ j c0, i = j + S.nx ∧ j < m ∧ lk j os = some c0 ∧ c = c0.map (Abs.shS S.nx)) ∨ (lk i S.own = some c ∧ φ2 i = φ i ∧ ¬ (S.nx ≤ i ∧ i < S.nx + m)) := by
      intro i c h
      rw [lk_appO] at h
      split at h
      · rename_i c' e
        cases h
        obtain ⟨j, c0, h1, h2, h3⟩ := lk_shO e
        exact .inl ⟨j, c0, h1, (ltO_ok hlo j c0 h2).1, h2, h3⟩
      · have := (hlt i c h).1
        exact .inr ⟨h, h2o i (by omega), by omega⟩
    have newB : ∀ {j c0 b}, lk j os = some c0 → (φo j).1 = some b → b0.w.heap.size ≤ b := fun h1 h2 => (hown _ _ h1).2 _ h2
    have oldB : ∀ {i c b}, lk i S.own = some c → (φ i).1 = some b → b < b0.w.heap.size := fun h1 h2 => (hs.own _ _ h1).1.lt h2
    have hFo : ∀ b, FSx φ S.own b0.w b → FSx φ2 (shO S.nx os ++ S.own) w' b := by
      intro b hbb
      refine ⟨Nat.lt_of_lt_of_le hbb.1 hb.size, fun i c hc e => ?_, hbb.3⟩
      rcases hcase hc with ⟨j, c0, rfl, hj, h1, _⟩ | ⟨h1, h2, _⟩
      · rw [h2n j hj] at e
        have := newB h1 e; have := hbb.1; omega
      · rw [h2] at e; exact hbb.2 i c h1 e
    have hFn : ∀ b, FSx φo os w' b → FSx φ2 (shO S.nx os ++ S.own) w' b := by
      intro b hbb
      have hbase : b0.base b := by rw [← hφb]; exact hbb.3
      rcases Nat.lt_or_ge b b0.w.heap.size with h | h
      · exact hFo b (hlent rfl b hbase h)
      · refine ⟨hbb.1, fun i c hc e => ?_, by show φ.base b; rw [hs.base]; exact w0.new b (Nat.le_trans hs.below.size h)⟩
        rcases hcase hc with ⟨j, c0, rfl, hj, h1, _⟩ | ⟨h1, h2, _⟩
        · rw [h2n j hj] at e; exact hbb.2 j c0 h1 e
        · rw [h2] at e; have := oldB h1 e; omega
    have old : ∀ {v d}, Rep φ b0.w (FSx φ S.own b0.w) v d → nmR S.nx d → Rep φ2 w' (FSx φ2 (shO S.nx os ++ S.own) w') v d := by
      intro v d h hn
      refine (h.mono (fun k hk => hb.block k hk.1) hFo).cg fun i hi => h2o i fun hh => ?_
      have := hn i hh.1 (by omega)
      rw [this] at hi; cases hi
    refine ⟨v, rfl, φ2, _, _, hk, ⟨hs'.below, hs'.size, fun i c hc => ?_, fun i i' c c' b h1 h2 hb1 hb2 => ?_, fun s d hd => ?_, hs'.base, fun i hi => ?_⟩, (hr.mono (fun _ _ => rfl) hFn).shD h2n hld, rfl⟩
    · rcases hcase hc with ⟨j, c0, rfl, hj, h1, rfl⟩ | ⟨h1, h2, _⟩
      · obtain ⟨g1, g2⟩ := hown j c0 h1
        have hl0 := ltL_ok (ltO_ok hlo j c0 h1).2
        refine ⟨?_, fun b hb => .inl (Nat.le_trans hs.below.size (g2 b (by rw [h2n j hj] at hb; exact hb)))⟩
        unfold OwnOk at g1 ⊢
        rw [h2n j hj]
        revert g1
        cases (φo j).1 with
        | none =>
          rintro ⟨a1, a2⟩
          have : c0 = [] := by
            cases c0 with
            | nil => rfl
            | cons x r =>
              obtain ⟨v, b1, _⟩ := a1 0 x rfl
              rw [hφb, hgh rfl] at b1; cases b1
          subst this
          exact ⟨fun i d hd => by simp at hd, a2⟩
        | some b =>
          rintro ⟨arr, T, fz, a1, a2, a3, a4, a5⟩
          refine ⟨arr, T, fz, a1, a2, a3, by simpa using a4, fun i v d hv hd => ?_⟩
          rw [List.getElem?_map] at hd
          cases e : c0[i]? with
          | none => rw [e] at hd; cases hd
          | some d0 =>
            rw [e] at hd
            obtain rfl : Abs.shS S.nx d0 = d := Option.some.inj hd
            exact ⟨((a5 i v d0 hv e).1.mono (fun _ _ => rfl) hFn).shS h2n (hl0 d0 (List.mem_of_getElem? e)), (a5 i v d0 hv e).2⟩
      · obtain ⟨g1, g2⟩ := hs.own i c h1
        have hnc := (hlt i c h1).2
        refine ⟨?_, fun b hb => g2 b (by rw [h2] at hb; exact hb)⟩
        unfold OwnOk at g1 ⊢
        rw [h2]
        revert g1
        cases hφi : (φ i).1 with
        | none =>
          rintro ⟨a1, a2⟩
          exact ⟨fun j d hd => by obtain ⟨v, b1, b2⟩ := a1 j d hd; exact ⟨v, b1, old b2 (hnc d (List.mem_of_getElem? hd))⟩, a2⟩
        | some b =>
          rintro ⟨arr, T, fz, a1, a2, a3, a4, a5⟩
          exact ⟨arr, T, fz, (hb.block b (oldB h1 hφi)).trans a1, a2, a3, a4, fun j v d hv hd => ⟨old (a5 j v d hv hd).1 (hnc d (List.mem_of_getElem? hd)), (a5 j v d hv hd).2⟩⟩
    · rcases hcase h1 with ⟨j, c0, rfl, hj, k1, _⟩ | ⟨k1, k2, _⟩ <;> rcases hcase h2 with ⟨j', c0', rfl, hj', l1, _⟩ | ⟨l1, l2, _⟩
      · rw [h2n j hj] at hb1; rw [h2n j' hj'] at hb2
        rw [hinj j j' c0 c0' b k1 l1 hb1 hb2]
      · rw [h2n j hj] at hb1; rw [l2] at hb2
        have := newB k1 hb1; have := oldB l1 hb2; omega
      · rw [k2] at hb1; rw [h2n j' hj'] at hb2
        have := newB l1 hb2; have := oldB k1 hb1; omega
      · rw [k2] at hb1; rw [l2] at hb2
        exact hs.inj i i' c c' b k1 l1 hb1 hb2
    · obtain ⟨v, hv, hr⟩ := hs.env s d hd
      exact ⟨v, hv, old hr (nmRE_ok hnE s d hd)⟩
    · rw [h2o i (by omega)]; exact hs.pin i hi
theorem callW_ok (hG : GOk G w0) {φ : Loc} (hs : SatC w0 φ S a.tmps w) {f : FuncId} {ds : List D} {vs : List Value} {lent : Bool} (ha : FArgs w (FL φ w) vs ds) (ha' : lent = false → FArgs w (FSx φ S.own w) vs ds) (h : callW G P f ds lent S k) :
    Callable P f ∧ Calls P f vs.toArray w fun e w' => ∃ v, e = .returned v ∧ Left w0 S a.tmps k v w' := by
  rcases h with h | ⟨id, h⟩ | ⟨T, hwk, h⟩
  · exact callW0_ok hG hs ha ha' h
  · obtain ⟨S', h, hs', hn, hF⟩ := frz_ok hs h
    obtain ⟨h1, h2⟩ := callW0_ok hG hs' ha (fun e => ⟨(ha' e).1, fun i v d hv hd => ((ha' e).2 i v d hv hd).mono (fun _ _ => rfl) hF⟩) h
    refine ⟨h1, h2.mono ?_⟩
    rintro e w' ⟨v, he, φ', d, S2, q1, q2, q3, q4⟩
    exact ⟨v, he, φ', d, S2, q1, q2, q3, q4.trans hn⟩
  · have ho' := wkO_ok hwk.2.2
    have hF : ∀ b, FSx φ S.own w b → FSx φ T.own w b := fun b hb => ⟨hb.1, fun id c hc => hb.2 id c (ho' id c hc), hb.3⟩
    obtain ⟨h1, h2⟩ := callW0_ok hG (wkW_ok hs hwk) ha (fun e => ⟨(ha' e).1, fun i v d hv hd => ((ha' e).2 i v d hv hd).mono (fun _ _ => rfl) hF⟩) h
    refine ⟨h1, h2.mono ?_⟩
    rintro e w' ⟨v, he, φ', d, S2, q1, q2, q3, q4⟩
    exact ⟨v, he, φ', d, S2, q1, q2, q3, q4.trans hwk.1⟩
end

#print axioms callW_ok
end Go.Abs
