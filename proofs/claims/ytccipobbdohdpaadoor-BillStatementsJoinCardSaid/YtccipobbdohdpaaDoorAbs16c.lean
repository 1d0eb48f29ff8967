/-
  AN ABSTRACT WALK, between the sixteenth and the seventeenth text, the second: regions that draw their order, in which variables are laid (alloc) and stored to: each such variable is known to this region's own operations alone.
-/
import Derived.Test.YtccipobbdohdpaaDoorAbs16b
namespace Go.Abs

theorem nmRL_spl {a : Nat} {c ds : List D} {off : Nat} (h1 : nmRL a c) (h2 : nmRL a ds) : nmRL a (splD c off ds) := by
  intro d hd
  unfold splD at hd
  rcases List.mem_append.1 hd with hd | hd
  · rcases List.mem_append.1 hd with hd | hd
    · exact h1 d (List.mem_of_mem_take hd)
    · exact h2 d hd
  · exact h1 d (List.mem_of_mem_drop hd)

/-! ### The walk -/
def isCv : Op → Bool
  | .call { callee := .value _, .. } => true
  | _ => false
def ptrW (d : D) (k : Nat → Nat → Prop) : Prop := match d with | .ptr id off => k id off | _ => False
def tmpW (x : Operand) (k : Nat → Prop) : Prop := match x with | .tmp s => k s | _ => False
def dsW (d : Option Tmp) (k : Nat → Prop) : Prop := match d with | some s => k s | none => False
/-- The block was there, or was laid by the operation that fills this slot. -/
def alW (id s : Nat) : List (Nat × Nat) → Prop
  | [] => True
  | (i, t) :: r => (id = i → t = s) ∧ alW id s r
def noW (id : Nat) : List Nat → Prop
  | [] => True
  | i :: r => ¬ id = i ∧ noW id r
/-- 'own': what nobody turns here; 'dy': what is turned, or laid, as it lies now; 'al': what was laid, and by the operation of which slot; 'st': what has been stored to. -/
def drxW (G : Glob) (P : Program) (ops : List Oper) (n a : Nat) (own : List (Nat × List D)) : List Oper → Nat → List (Nat × List D) → List (Nat × Nat) → List Nat → List (Nat × D) → (Nat → List (Nat × List D) → List (Nat × D) → Prop) → Prop
  | [], nxt, dy, _, _, E, k => k nxt dy E
  | o :: rest, nxt, dy, al, st, E, k =>
    match o.op with
    | .alloc t => o.guard = none ∧ nxt < pinB ∧ dsW o.dst fun s => s < n ∧ zeroW P t fun cs => nmRL a cs ∧ drxW G P ops n a own rest (nxt + 1) ((nxt, cs) :: dy) ((nxt, s) :: al) st ((s, .ptr nxt 0) :: E) k
    | .store t p x => o.guard = none ∧ o.dst = none ∧ tmpW p fun s => lkW s E fun dp => ptrW dp fun id off => noW id st ∧ alW id s al ∧ evW G ⟨n, a, E, own⟩ x fun dx => szW P t fun sz => clW dx fun ds =>
        ds.length = sz ∧ nmRL a ds ∧ lkoW id dy fun c => off + ds.length ≤ c.length ∧ splW c off ds fun c' => soW id c' dy fun dy' => drxW G P ops n a own rest nxt dy' al (id :: st) E k
    | op => match stb op with
      | false => False
      | true => (grdW ops o.guard ⟨n, a, E, own⟩
          (fun S => rsW (rdsO op) S.env fun r => exD (fun d => ∀ (E' : List (Nat × D)) (X : List (Nat × List D)), opR G P op ⟨n, a, r ++ E', own ++ X⟩ fun x T => x = d ∧ T = ⟨n, a, r ++ E', own ++ X⟩) (fun d => nmR a d ∧ putW o.dst d S fun S => drxW G P ops n a own rest nxt dy al st S.env k) (tgd _))
          (fun S => putW o.dst (.tup []) S fun S => drxW G P ops n a own rest nxt dy al st S.env k)) ∨
        (isCv op = true ∧ o.guard = none ∧ nxt < pinB ∧ dsW o.dst fun s => s < n ∧ rsW (rdsO op) E fun r => ∃ d cs, nmRL a cs ∧ (∀ i, a ≤ i → i < pinB → i ≠ nxt → mn i d = false) ∧
          (∀ (E' : List (Nat × D)) (X : List (Nat × List D)), (∀ A, nmW nxt X A = A) → opW G P op ⟨n, nxt, r ++ E', own ++ X⟩ fun x T => x = d ∧ T = ⟨n, nxt + 1, purge nxt (r ++ E'), (nxt, cs) :: (own ++ X)⟩) ∧
          drxW G P ops n a own rest (nxt + 1) ((nxt, cs) :: dy) ((nxt, s) :: al) st ((s, d) :: E) k)
def drxA (G : Glob) (P : Program) (ops : List Oper) (n a : Nat) (own : List (Nat × List D)) (o : Oper) (rest : List Oper) (nxt : Nat) (dy : List (Nat × List D)) (al : List (Nat × Nat)) (st : List Nat) (E : List (Nat × D)) (k : Nat → List (Nat × List D) → List (Nat × D) → Prop) : Prop :=
  grdW ops o.guard ⟨n, a, E, own⟩
          (fun S => rsW (rdsO o.op) S.env fun r => exD (fun d => ∀ (E' : List (Nat × D)) (X : List (Nat × List D)), opR G P o.op ⟨n, a, r ++ E', own ++ X⟩ fun x T => x = d ∧ T = ⟨n, a, r ++ E', own ++ X⟩) (fun d => nmR a d ∧ putW o.dst d S fun S => drxW G P ops n a own rest nxt dy al st S.env k) (tgd _))
          (fun S => putW o.dst (.tup []) S fun S => drxW G P ops n a own rest nxt dy al st S.env k)
/-- What an operation that is called makes a block of its own. -/
def drxN (G : Glob) (P : Program) (ops : List Oper) (n a : Nat) (own : List (Nat × List D)) (o : Oper) (rest : List Oper) (nxt : Nat) (dy : List (Nat × List D)) (al : List (Nat × Nat)) (st : List Nat) (E : List (Nat × D)) (k : Nat → List (Nat × List D) → List (Nat × D) → Prop) : Prop :=
  o.guard = none ∧ nxt < pinB ∧ dsW o.dst fun s => s < n ∧ rsW (rdsO o.op) E fun r => ∃ d cs, nmRL a cs ∧ (∀ i, a ≤ i → i < pinB → i ≠ nxt → mn i d = false) ∧
          (∀ (E' : List (Nat × D)) (X : List (Nat × List D)), (∀ A, nmW nxt X A = A) → opW G P o.op ⟨n, nxt, r ++ E', own ++ X⟩ fun x T => x = d ∧ T = ⟨n, nxt + 1, purge nxt (r ++ E'), (nxt, cs) :: (own ++ X)⟩) ∧
          drxW G P ops n a own rest (nxt + 1) ((nxt, cs) :: dy) ((nxt, s) :: al) st ((s, d) :: E) k
theorem drxW_stb {G : Glob} {P : Program} {ops : List Oper} {n a : Nat} {own : List (Nat × List D)} {o : Oper} {rest : List Oper} {nxt : Nat} {dy : List (Nat × List D)} {al : List (Nat × Nat)} {st : List Nat} {E : List (Nat × D)} {k : Nat → List (Nat × List D) → List (Nat × D) → Prop} (h : stb o.op = true) :
    drxW G P ops n a own (o :: rest) nxt dy al st E k = (drxA G P ops n a own o rest nxt dy al st E k ∨ (isCv o.op = true ∧ drxN G P ops n a own o rest nxt dy al st E k)) := by
  rw [drxW]
  unfold drxA drxN
  cases e : o.op <;> rw [e] at h <;> first | (simp only [h]; done) | (cases h; done) | (simp only; rw [h])
theorem drxW_st {G : Glob} {P : Program} {ops : List Oper} {n a : Nat} {own : List (Nat × List D)} {o : Oper} {rest : List Oper} {nxt : Nat} {dy : List (Nat × List D)} {al : List (Nat × Nat)} {st : List Nat} {E : List (Nat × D)} {k : Nat → List (Nat × List D) → List (Nat × D) → Prop} (h : stb o.op = true) (h2 : isCv o.op = false) :
    drxW G P ops n a own (o :: rest) nxt dy al st E k = drxA G P ops n a own o rest nxt dy al st E k := by
  rw [drxW_stb h, h2]; simp

/-! ### What the blocks hold, once some operations are done -/
open Classical in
noncomputable def OL (O0 : List (Nat × List D)) (ch : List (Option (Nat × List D))) (L : Nat → Prop) : Nat → Nat → Option (List D)
  | 0, id => lk id O0
  | i + 1, id => match ch[i]? with
    | some (some (j, c)) => if j = id ∧ L i then some c else OL O0 ch L i id
    | _ => OL O0 ch L i id
section
variable {O0 : List (Nat × List D)} {ch : List (Option (Nat × List D))} {L L' : Nat → Prop}
theorem OL_none {i id : Nat} (h : ∀ c, ch[i]? ≠ some (some (id, c))) : OL O0 ch L (i + 1) id = OL O0 ch L i id := by
  rw [OL]
  split
  · rename_i j c e
    rw [if_neg]
    rintro ⟨rfl, _⟩; exact h c e
  · rfl
theorem OL_out {i id : Nat} (h : ¬ L i) : OL O0 ch L (i + 1) id = OL O0 ch L i id := by
  rw [OL]
  split
  · rw [if_neg (fun e => h e.2)]
  · rfl
theorem OL_in {i id : Nat} {c : List D} (h : ch[i]? = some (some (id, c))) (hl : L i) : OL O0 ch L (i + 1) id = some c := by
  rw [OL, h]; exact if_pos ⟨rfl, hl⟩
theorem OL_congr {id : Nat} : ∀ {m : Nat}, (∀ j c, j < m → ch[j]? = some (some (id, c)) → (L j ↔ L' j)) → OL O0 ch L m id = OL O0 ch L' m id
  | 0, _ => rfl
  | m + 1, h => by
    have ih := OL_congr (m := m) fun j c hj hc => h j c (by omega) hc
    by_cases e : ∃ c, ch[m]? = some (some (id, c))
    · obtain ⟨c, e⟩ := e
      have hm := h m c (by omega) e
      by_cases hl : L m
      · rw [OL_in e hl, OL_in e (hm.1 hl)]
      · rw [OL_out hl, OL_out (fun x => hl (hm.2 x)), ih]
    · rw [OL_none (fun c hc => e ⟨c, hc⟩), OL_none (fun c hc => e ⟨c, hc⟩), ih]
/-- Behind an operation nothing touches the block. -/
theorem OL_cut {id i : Nat} : ∀ {m : Nat}, i ≤ m → (∀ j c, i ≤ j → j < m → ch[j]? = some (some (id, c)) → ¬ L j) → OL O0 ch L m id = OL O0 ch L i id
  | 0, hi, _ => by rw [Nat.le_zero.1 hi]
  | m + 1, hi, h => by
    by_cases e : i = m + 1
    · rw [e]
    · have ih := OL_cut (m := m) (i := i) (by omega) fun j c h1 h2 hc => h j c h1 (by omega) hc
      by_cases e : ∃ c, ch[m]? = some (some (id, c))
      · obtain ⟨c, e⟩ := e
        rw [OL_out (h m c (by omega) (by omega) e), ih]
      · rw [OL_none (fun c hc => e ⟨c, hc⟩), ih]
theorem OL_ext {ch' : List (Option (Nat × List D))} (h : ch <+: ch') {id : Nat} : ∀ {i : Nat}, i ≤ ch.length → OL O0 ch L i id = OL O0 ch' L i id
  | 0, _ => rfl
  | i + 1, hi => by
    have ih := OL_ext h (id := id) (i := i) (by omega)
    have e : ch'[i]? = ch[i]? := by obtain ⟨r, rfl⟩ := h; rw [List.getElem?_append_left (by omega)]
    rw [OL, OL, e, ih]
theorem OL_nm {a : Nat} (h0 : ∀ id c, lk id O0 = some c → nmRL a c) (hc : ∀ (j id : Nat) (c : List D), ch[j]? = some (some (id, c)) → nmRL a c) : ∀ {m id : Nat} {c : List D}, OL O0 ch L m id = some c → nmRL a c
  | 0, id, c, h => h0 id c h
  | m + 1, id, c, h => by
    by_cases e : ∃ c, ch[m]? = some (some (id, c))
    · obtain ⟨c', e⟩ := e
      by_cases hl : L m
      · rw [OL_in e hl] at h; cases h; exact hc m id _ e
      · rw [OL_out hl] at h; exact OL_nm h0 hc h
    · rw [OL_none (fun c hc => e ⟨c, hc⟩)] at h; exact OL_nm h0 hc h
end

/-! ### What is known of each operation -/
section
variable (l : List Oper) (env0 : List (Nat × D))
def FX (G : Glob) (P : Program) (n a : Nat) (own O0 : List (Nat × List D)) (res : List D) (ch : List (Option (Nat × List D))) (i : Nat) : Prop :=
  ∃ o d c, l[i]? = some o ∧ res[i]? = some d ∧ ch[i]? = some c ∧ (∀ s, o.dst = some s → s < n) ∧
    ((c = none ∧ nmR a d ∧ stb o.op = true ∧ ((GO l env0 res i o true ∧ ∃ r : List (Nat × D), (∀ t d, (t, d) ∈ r → t ∈ rdsO o.op ∧ Srd l env0 res i t d) ∧
          ∀ (E' : List (Nat × D)) (X : List (Nat × List D)), opR G P o.op ⟨n, a, r ++ E', own ++ X⟩ fun x T => x = d ∧ T = ⟨n, a, r ++ E', own ++ X⟩) ∨ (GO l env0 res i o false ∧ d = .tup []))) ∨
     (∃ t s id cs, c = some (id, cs) ∧ o.op = .alloc t ∧ o.guard = none ∧ o.dst = some s ∧ d = .ptr id 0 ∧ zeroW P t (fun x => x = cs) ∧ nmRL a cs ∧ a ≤ id ∧ id < pinB ∧ ∀ j c', j < i → ch[j]? ≠ some (some (id, c'))) ∨
     (∃ s id cs r, c = some (id, cs) ∧ isCv o.op = true ∧ o.guard = none ∧ o.dst = some s ∧ nmRL a cs ∧ a ≤ id ∧ id < pinB ∧ (∀ i, a ≤ i → i < pinB → i ≠ id → mn i d = false) ∧ (∀ t d, (t, d) ∈ r → t ∈ rdsO o.op ∧ Srd l env0 res i t d) ∧
        (∀ (E' : List (Nat × D)) (X : List (Nat × List D)), (∀ A, nmW id X A = A) → opW G P o.op ⟨n, id, r ++ E', own ++ X⟩ fun x T => x = d ∧ T = ⟨n, id + 1, purge id (r ++ E'), (id, cs) :: (own ++ X)⟩) ∧ ∀ j c', j < i → ch[j]? ≠ some (some (id, c'))) ∨
     (∃ t s x id off r dx ds c0, c = some (id, splD c0 off ds) ∧ o.op = .store t (.tmp s) x ∧ o.guard = none ∧ o.dst = none ∧ Srd l env0 res i s (.ptr id off) ∧ (∀ t d, (t, d) ∈ r → t ∈ rdsO o.op ∧ Srd l env0 res i t d) ∧
        (∀ (E' : List (Nat × D)) (X : List (Nat × List D)), evW G ⟨n, a, r ++ E', X⟩ x fun d => d = dx) ∧ szW P t (fun sz => ds.length = sz) ∧ clW dx (fun x => x = ds) ∧ off + ds.length ≤ c0.length ∧ nmRL a (splD c0 off ds) ∧
        OL O0 ch (fun _ => True) i id = some c0 ∧ ∀ j c', j < i → ch[j]? = some (some (id, c')) → ∃ p, l[j]? = some p ∧ p.dst = some s))
end
variable {l : List Oper} {env0 : List (Nat × D)}
theorem constW_ex {v : Value} {k : D → Prop} (h : constW v k) : ∃ d, constW v (fun e => e = d) ∧ k d := by
  unfold constW at h ⊢
  split at h
  · exact ⟨_, rfl, h⟩
  · exact ⟨_, ⟨h.1, rfl⟩, h.2⟩
  · exact ⟨_, ⟨h.1, rfl⟩, h.2⟩
  · exact ⟨_, rfl, h⟩
  · exact ⟨_, ⟨h.1, rfl⟩, h.2⟩
  · exact ⟨_, rfl, h⟩
theorem glW_ex {g : Nat} : ∀ {G : Glob} {k : D → Prop}, glW g G k → ∃ d, glW g G (fun e => e = d) ∧ k d
  | [], _, h => ⟨_, rfl, h⟩
  | (s, cs) :: r, k, h => by
    rw [glW_cons] at h
    split at h
    · rename_i e; exact ⟨_, by rw [glW_cons, if_pos e], h⟩
    · rename_i e; obtain ⟨d, h1, h2⟩ := glW_ex h; exact ⟨d, by rw [glW_cons, if_neg e]; exact h1, h2⟩
theorem zeroW_ex {P : Program} {t : TypeId} {k : List D → Prop} (h : zeroW P t k) : ∃ cs, zeroW P t (fun x => x = cs) ∧ k cs := by
  obtain ⟨i, v, h1, h2, h3, h4⟩ := zeroW_ok h
  exact ⟨_, by unfold zeroW; rw [h1]; simp only; rw [h2]; exact ⟨h3, rfl⟩, h4⟩
theorem szW_ex {P : Program} {t : TypeId} {k : Nat → Prop} (h : szW P t k) : ∃ sz, szW P t (fun x => x = sz) ∧ k sz := by
  obtain ⟨i, h1, h2⟩ := szW_ok h
  exact ⟨_, by unfold szW; rw [h1], h2⟩
theorem clW_ex {d : D} {k : List D → Prop} (h : clW d k) : ∃ cs, clW d (fun x => x = cs) ∧ k cs := by
  cases d <;> first | exact ⟨_, rfl, h⟩ | exact h.elim
theorem alW_ok {id s : Nat} : ∀ {al : List (Nat × Nat)}, alW id s al → ∀ t, (id, t) ∈ al → t = s
  | [], _, t, h => by simp at h
  | (i, u) :: r, h, t, ht => by
    rcases List.mem_cons.1 ht with h1 | h1
    · cases h1; exact h.1 rfl
    · exact alW_ok h.2 t h1
theorem noW_ok {id : Nat} : ∀ {st : List Nat}, noW id st → id ∉ st
  | [], _ => by simp
  | i :: r, h => by
    intro hm
    rcases List.mem_cons.1 hm with h1 | h1
    · exact h.1 h1
    · exact noW_ok h.2 h1
theorem ev_r {G : Glob} {n a : Nat} {E : List (Nat × D)} {own : List (Nat × List D)} {x : Operand} {k : D → Prop} (h : evW G ⟨n, a, E, own⟩ x k) :
    ∃ dx r, k dx ∧ (∀ t d, (t, d) ∈ r → rdO x = some t ∧ lk t E = some d) ∧ ∀ (E' : List (Nat × D)) (X : List (Nat × List D)), evW G ⟨n, a, r ++ E', X⟩ x fun d => d = dx := by
  cases x with
  | tmp t =>
    obtain ⟨d, hd, hk⟩ := lkW_ok h
    refine ⟨d, [(t, d)], hk, fun s e he => ?_, fun E' X => ?_⟩
    · simp at he; obtain ⟨rfl, rfl⟩ := he; exact ⟨rfl, hd⟩
    · show lkW t _ _
      simp [lkW_cons]
  | const v =>
    obtain ⟨d, hd, hk⟩ : ∃ d, constW v (fun e => e = d) ∧ k d := constW_ex h
    exact ⟨d, [], hk, by simp, fun _ _ => hd⟩
  | global g =>
    obtain ⟨d, hd, hk⟩ : ∃ d, glW g G (fun e => e = d) ∧ k d := glW_ex h
    exact ⟨d, [], hk, by simp, fun _ _ => hd⟩
  | func f => exact ⟨_, [], h, by simp, fun _ _ => rfl⟩

structure IX (l : List Oper) (K : Nat → Prop) (a : Nat) (O0 : List (Nat × List D)) (i nxt : Nat) (dy : List (Nat × List D)) (al : List (Nat × Nat)) (st : List Nat) (ch : List (Option (Nat × List D))) : Prop where
  an : a ≤ nxt
  dyc : ∀ id c, lk id dy = some c → OL O0 ch (fun _ => True) i id = some c ∧ (id < nxt ∨ pinB ≤ id) ∧ nmRL a c
  key : ∀ id c, lk id dy = some c → K id ∨ (a ≤ id ∧ id < pinB)
  keep : ∀ id, K id → ∃ c, lk id dy = some c
  tch : ∀ (j id : Nat) (c : List D), ch[j]? = some (some (id, c)) → (∃ c', lk id dy = some c') ∧ ((∃ s p, (id, s) ∈ al ∧ l[j]? = some p ∧ p.dst = some s) ∨ id ∈ st)
theorem get_snoc {α : Type} {r : List α} {x : α} {j : Nat} {y : α} (h : (r ++ [x])[j]? = some y) : r[j]? = some y ∨ (j = r.length ∧ y = x) := by
  rw [List.getElem?_append] at h
  split at h
  · exact .inl h
  · rename_i hj
    have : j - r.length = 0 := by
      cases e : j - r.length with
      | zero => rfl
      | succ k => rw [e] at h; simp at h
    rw [this] at h
    simp at h
    exact .inr ⟨by omega, h.symm⟩
theorem drx_ext {G : Glob} {P : Program} {n a m : Nat} {own O0 : List (Nat × List D)} {k : Nat → List (Nat × List D) → List (Nat × D) → Prop} {K : Nat → Prop} (hml : m ≤ l.length) : ∀ (rest : List Oper) (i nxt : Nat) (dy : List (Nat × List D)) (al : List (Nat × Nat)) (st : List Nat) (E : List (Nat × D)) (acc : List D) (cacc : List (Option (Nat × List D))),
    acc.length = i → cacc.length = i → i ≤ m → (l.take m).drop i = rest → Coh l env0 acc i E → IX l K a O0 i nxt dy al st cacc → drxW G P l n a own rest nxt dy al st E k →
    ∃ res ch nxt' dy' al' st' E2, acc <+: res ∧ cacc <+: ch ∧ res.length = m ∧ ch.length = m ∧ (∀ j, i ≤ j → j < m → FX l env0 G P n a own O0 res ch j) ∧ Coh l env0 res m E2 ∧ IX l K a O0 m nxt' dy' al' st' ch ∧ k nxt' dy' E2
  | [], i, nxt, dy, al, st, E, acc, cacc, hl, hl2, hle, hd, hc, hx, h => by
    have hil : i = m := by
      have := congrArg List.length hd; simp at this; omega
    subst hil
    exact ⟨acc, cacc, nxt, dy, al, st, E, List.prefix_refl _, List.prefix_refl _, hl, hl2, fun j h1 h2 => by omega, hc, hx, h⟩
  | o :: rest, i, nxt, dy, al, st, E, acc, cacc, hl, hl2, hle, hd, hc, hx, h => by
    have him : i < m := by
      have := congrArg List.length hd; simp at this; omega
    have ho : l[i]? = some o := by
      have := congrArg (fun z => z[0]?) hd
      simp only [List.getElem?_drop, Nat.add_zero, List.getElem?_cons_zero] at this
      rwa [List.getElem?_take_of_lt him] at this
    have hd2 : (l.take m).drop (i + 1) = rest := by
      have := congrArg (List.drop 1) hd; simpa [List.drop_drop] using this
    have getd : ∀ {d : D} {res : List D}, acc ++ [d] <+: res → res[i]? = some d := by
      rintro d res ⟨r, rfl⟩
      rw [List.append_assoc, List.getElem?_append_right (by omega), hl]; simp
    have getc : ∀ {c : Option (Nat × List D)} {ch : List (Option (Nat × List D))}, cacc ++ [c] <+: ch → ch[i]? = some c := by
      rintro d res ⟨r, rfl⟩
      rw [List.append_assoc, List.getElem?_append_right (by omega), hl2]; simp
    have pre : ∀ {d : D} {res : List D}, acc ++ [d] <+: res → acc <+: res := fun h => (List.prefix_append _ _).trans h
    have prec : ∀ {c : Option (Nat × List D)} {ch : List (Option (Nat × List D))}, cacc ++ [c] <+: ch → cacc <+: ch := fun h => (List.prefix_append _ _).trans h
    -- what remains, once the operation's data are known
    have go : ∀ (d : D) (c : Option (Nat × List D)) (E1 : List (Nat × D)) (nxt1 : Nat) (dy1 : List (Nat × List D)) (al1 : List (Nat × Nat)) (st1 : List Nat), Coh l env0 (acc ++ [d]) (i + 1) E1 → IX l K a O0 (i + 1) nxt1 dy1 al1 st1 (cacc ++ [c]) → drxW G P l n a own rest nxt1 dy1 al1 st1 E1 k →
        (∀ res ch, acc ++ [d] <+: res → cacc ++ [c] <+: ch → FX l env0 G P n a own O0 res ch i) →
        ∃ res ch nxt' dy' al' st' E2, acc <+: res ∧ cacc <+: ch ∧ res.length = m ∧ ch.length = m ∧ (∀ j, i ≤ j → j < m → FX l env0 G P n a own O0 res ch j) ∧ Coh l env0 res m E2 ∧ IX l K a O0 m nxt' dy' al' st' ch ∧ k nxt' dy' E2 := by
      intro d c E1 nxt1 dy1 al1 st1 h1 h2 h3 h4
      obtain ⟨res, ch, nxt', dy', al', st', E2, r1, r2, r3, r4, r5, r6, r7, r8⟩ := drx_ext hml rest (i + 1) nxt1 dy1 al1 st1 E1 (acc ++ [d]) (cacc ++ [c]) (by simp [hl]) (by simp [hl2]) (by omega) hd2 h1 h2 h3
      refine ⟨res, ch, nxt', dy', al', st', E2, pre r1, prec r2, r3, r4, fun j h1 h2 => ?_, r6, r7, r8⟩
      by_cases e : j = i
      · subst e; exact h4 res ch r1 r2
      · exact r5 j (by omega) h2
    -- a block is new
    have newIX : ∀ {s : Nat} {cs : List D}, o.dst = some s → nxt < pinB → nmRL a cs → (∀ (j : Nat) (c' : List D), cacc[j]? ≠ some (some (nxt, c'))) ∧ IX l K a O0 (i + 1) (nxt + 1) ((nxt, cs) :: dy) ((nxt, s) :: al) st (cacc ++ [some (nxt, cs)]) ∧
        ∀ ch, cacc <+: ch → ∀ j c', j < i → ch[j]? ≠ some (some (nxt, c')) := by
      intro s cs hdst hp hnm
      have hnew : ∀ (j : Nat) (c' : List D), cacc[j]? ≠ some (some (nxt, c')) := by
        intro j c' hj
        obtain ⟨⟨c2, hc2⟩, _⟩ := hx.tch j nxt c' hj
        have := (hx.dyc nxt c2 hc2).2.1
        omega
      refine ⟨hnew, ?_, fun ch hpc j c' hj hch => ?_⟩
      rotate_left 1
      · have e : ch[j]? = cacc[j]? := by obtain ⟨r, rfl⟩ := hpc; rw [List.getElem?_append_left (by omega)]
        rw [e] at hch
        exact hnew j c' hch
      · refine ⟨by have := hx.an; omega, fun id c hcc => ?_, fun id c hcc => ?_, fun id hk => ?_, fun j id c hcc => ?_⟩
        rotate_left 1
        · simp only [lk] at hcc
          split at hcc
          · rename_i e; subst e; exact .inr ⟨hx.an, hp⟩
          · exact hx.key id c hcc
        · obtain ⟨c, h1⟩ := hx.keep id hk
          simp only [lk]; split
          · exact ⟨_, rfl⟩
          · exact ⟨c, h1⟩
        rotate_left 1
        · simp only [lk] at hcc
          split at hcc
          · rename_i e; cases hcc; subst e
            exact ⟨OL_in (by rw [List.getElem?_append_right (by omega), hl2]; simp) trivial, .inl (by omega), hnm⟩
          · rename_i e
            obtain ⟨h1, h2, h3⟩ := hx.dyc id c hcc
            refine ⟨?_, h2.imp (by omega) _root_.id, h3⟩
            rw [OL_none (fun c hc => by rcases get_snoc hc with h | ⟨_, h⟩; · rw [List.getElem?_eq_none (by omega)] at h; cases h
                                        · cases h; exact e rfl)]
            rw [← OL_ext (List.prefix_append cacc _) (by omega)]; exact h1
        · rcases get_snoc hcc with h | ⟨hj, h⟩
          · obtain ⟨⟨c2, h1⟩, h2⟩ := hx.tch j id c h
            refine ⟨?_, h2.imp (fun ⟨u, p, q1, q2, q3⟩ => ⟨u, p, by simp [q1], q2, q3⟩) _root_.id⟩
            simp only [lk]; split
            · exact ⟨_, rfl⟩
            · exact ⟨c2, h1⟩
          · cases h
            exact ⟨⟨cs, by simp [lk]⟩, .inl ⟨s, o, by simp, by rw [hj, hl2]; exact ho, hdst⟩⟩
    -- an operation that turns nothing
    have quietIX : IX l K a O0 (i + 1) nxt dy al st (cacc ++ [none]) := by
      refine ⟨hx.an, fun id c hc => ?_, hx.key, hx.keep, fun j id c hc => ?_⟩
      · obtain ⟨h1, h2⟩ := hx.dyc id c hc
        refine ⟨?_, h2⟩
        rw [OL_none (fun c hc => by rcases get_snoc hc with h | ⟨_, h⟩; · rw [List.getElem?_eq_none (by omega)] at h; cases h
                                    · cases h)]
        rw [← OL_ext (List.prefix_append cacc [none]) (by omega)]; exact h1
      · rcases get_snoc hc with h | ⟨_, h⟩
        · exact hx.tch j id c h
        · cases h
    have still : stb o.op = true → ∃ res ch nxt' dy' al' st' E2, acc <+: res ∧ cacc <+: ch ∧ res.length = m ∧ ch.length = m ∧ (∀ j, i ≤ j → j < m → FX l env0 G P n a own O0 res ch j) ∧ Coh l env0 res m E2 ∧ IX l K a O0 m nxt' dy' al' st' ch ∧ k nxt' dy' E2 := by
      intro hst
      rw [drxW_stb hst] at h
      rcases h with h | ⟨hcv, h⟩
      rotate_left 1
      · -- a block is made by a callee
        obtain ⟨hg, hp, h⟩ := h
        cases hdst : o.dst with
        | none => rw [hdst] at h; exact h.elim
        | some s =>
          rw [hdst] at h
          obtain ⟨hsn, h⟩ := h
          obtain ⟨r, ⟨d, cs, hnm, hdm, hop, h⟩, hrr⟩ := rsW_ok h
          obtain ⟨hnew, hA, hB⟩ := newIX (s := s) (cs := cs) hdst hp hnm
          refine go d (some (nxt, cs)) ((s, d) :: E) (nxt + 1) ((nxt, cs) :: dy) ((nxt, s) :: al) st ?_ hA h fun res ch hp1 hp2 => ?_
          · have := hc.step (d := d) hl ho
            rw [hdst] at this; exact this
          · exact ⟨o, d, some (nxt, cs), ho, getd hp1, getc hp2, (fun s' h => by rw [hdst] at h; cases h; exact hsn), .inr (.inr (.inl ⟨s, nxt, cs, r, rfl, hcv, hg, hdst, hnm, hx.an, hp, hdm, fun t e he => ⟨(hrr t e he).1, (Srd.ext (pre hp1) (by omega)).1 (hc t e (hrr t e he).2)⟩, hop, hB ch (prec hp2)⟩))⟩
      unfold drxA at h
      have wanted : ∀ (E' : List (Nat × D)), Coh l env0 acc i E' → GO l env0 acc i o true →
          (rsW (rdsO o.op) E' fun r => exD (fun d => ∀ (E'' : List (Nat × D)) (X : List (Nat × List D)), opR G P o.op ⟨n, a, r ++ E'', own ++ X⟩ fun x T => x = d ∧ T = ⟨n, a, r ++ E'', own ++ X⟩) (fun d => nmR a d ∧ putW o.dst d ⟨n, a, E', own⟩ fun S => drxW G P l n a own rest nxt dy al st S.env k) (tgd _)) →
          ∃ res ch nxt' dy' al' st' E2, acc <+: res ∧ cacc <+: ch ∧ res.length = m ∧ ch.length = m ∧ (∀ j, i ≤ j → j < m → FX l env0 G P n a own O0 res ch j) ∧ Coh l env0 res m E2 ∧ IX l K a O0 m nxt' dy' al' st' ch ∧ k nxt' dy' E2 := by
        intro E' hc' hgo hr
        obtain ⟨r, ⟨d, hop, hnm, hk⟩, hrr⟩ := rsW_ok hr
        have : (∀ s, o.dst = some s → s < n) ∧ drxW G P l n a own rest nxt dy al st (match o.dst with | none => E' | some s => (s, d) :: E') k := by
          cases hdst : o.dst with
          | none => rw [hdst] at hk; exact ⟨(fun s hs => by cases hs), hk⟩
          | some s => rw [hdst] at hk; exact ⟨fun s' hs => by cases hs; exact hk.1, hk.2⟩
        refine go d none _ nxt dy al st (hc'.step (d := d) hl ho) quietIX this.2 fun res ch hp hp2 => ?_
        exact ⟨o, d, none, ho, getd hp, getc hp2, this.1, .inl ⟨rfl, hnm, hst, .inl ⟨hgo.ext (pre hp) (by omega), r, fun t e he => ⟨(hrr t e he).1, (Srd.ext (pre hp) (by omega)).1 (hc' t e (hrr t e he).2)⟩, hop⟩⟩⟩
      have skipped : ∀ (E' : List (Nat × D)), Coh l env0 acc i E' → GO l env0 acc i o false → (putW o.dst (.tup []) ⟨n, a, E', own⟩ fun S => drxW G P l n a own rest nxt dy al st S.env k) →
          ∃ res ch nxt' dy' al' st' E2, acc <+: res ∧ cacc <+: ch ∧ res.length = m ∧ ch.length = m ∧ (∀ j, i ≤ j → j < m → FX l env0 G P n a own O0 res ch j) ∧ Coh l env0 res m E2 ∧ IX l K a O0 m nxt' dy' al' st' ch ∧ k nxt' dy' E2 := by
        intro E' hc' hgo hk
        have : (∀ s, o.dst = some s → s < n) ∧ drxW G P l n a own rest nxt dy al st (match o.dst with | none => E' | some s => (s, .tup []) :: E') k := by
          cases hdst : o.dst with
          | none => rw [hdst] at hk; exact ⟨(fun s hs => by cases hs), hk⟩
          | some s => rw [hdst] at hk; exact ⟨fun s' hs => by cases hs; exact hk.1, hk.2⟩
        refine go (.tup []) none _ nxt dy al st (hc'.step (d := .tup []) hl ho) quietIX this.2 fun res ch hp hp2 => ?_
        exact ⟨o, .tup [], none, ho, getd hp, getc hp2, this.1, .inl ⟨rfl, fun _ _ _ => rfl, hst, .inr ⟨hgo.ext (pre hp) (by omega), rfl⟩⟩⟩
      unfold grdW at h
      split at h
      · rename_i hg
        exact wanted E hc (by unfold GO; rw [hg]) h
      · rename_i g want hg
        obtain ⟨s, hs2, h⟩ := dstW_ok h
        obtain ⟨og, hog, hogd⟩ : ∃ og, l[g]? = some og ∧ og.dst = some s := by
          cases hx : l[g]? with
          | none => rw [hx] at hs2; cases hs2
          | some og => rw [hx] at hs2; exact ⟨og, rfl, hs2⟩
        obtain ⟨dg, hdg, h⟩ := lkW_ok h
        have hsrc := hc s dg hdg
        have hcons : ∀ b : Bool, dg = .bool b → Coh l env0 acc i ((s, .bool b) :: E) := by
          intro b hb t e he
          simp only [lk] at he
          split at he
          · rename_i e1; cases he; subst e1; rw [← hb]; exact hsrc
          · exact hc t e he
        split at h
        · rename_i c
          by_cases e : c = want
          · exact wanted _ (hcons want (by rw [e])) (by unfold GO; rw [hg]; exact ⟨og, s, hog, hogd, .inl ⟨c, hsrc, by simp [e]⟩⟩) (h.1 e)
          · have e2 : (!want) = c := by cases c <;> cases want <;> simp_all
            exact skipped _ (hcons (!want) (by rw [e2])) (by unfold GO; rw [hg]; exact ⟨og, s, hog, hogd, .inl ⟨c, hsrc, by simp [e]⟩⟩) (h.2 e)
        · exact skipped E hc (by unfold GO; rw [hg]; exact ⟨og, s, hog, hogd, .inr ⟨hsrc, rfl⟩⟩) h
        · exact h.elim
    by_cases hst : stb o.op = true
    · exact still hst
    rw [drxW] at h
    split at h
    · -- a variable is laid
      rename_i t hop
      obtain ⟨hg, hp, h⟩ := h
      cases hdst : o.dst with
      | none => rw [hdst] at h; exact h.elim
      | some s =>
        rw [hdst] at h
        obtain ⟨hsn, h⟩ := h
        obtain ⟨cs, hz, hnm, h⟩ := zeroW_ex h
        obtain ⟨hnew, hA, hB⟩ := newIX (s := s) (cs := cs) hdst hp hnm
        refine go (.ptr nxt 0) (some (nxt, cs)) ((s, .ptr nxt 0) :: E) (nxt + 1) ((nxt, cs) :: dy) ((nxt, s) :: al) st ?_ hA h fun res ch hp1 hp2 => ?_
        · have := hc.step (d := .ptr nxt 0) hl ho
          rw [hdst] at this; exact this
        · exact ⟨o, .ptr nxt 0, some (nxt, cs), ho, getd hp1, getc hp2, (fun s' h => by rw [hdst] at h; cases h; exact hsn), .inr (.inl ⟨t, s, nxt, cs, rfl, hop, hg, hdst, rfl, hz, hnm, hx.an, hp, hB ch (prec hp2)⟩)⟩
    · -- a variable is stored to
      rename_i t p x hop
      obtain ⟨hg, hdst, h⟩ := h
      cases p with
      | tmp s =>
        obtain ⟨dp, hdp, h⟩ := lkW_ok h
        cases dp with
        | ptr id off =>
          obtain ⟨hno, hal, h⟩ := h
          obtain ⟨dx, r, h, hr, hev⟩ := ev_r h
          obtain ⟨sz, hsz, h⟩ := szW_ex h
          obtain ⟨ds, hcl, hds, hnm, h⟩ := clW_ex h
          obtain ⟨c0, hc0, hfit, h⟩ := lkoW_ok h
          obtain ⟨o1, o2, o3⟩ := hx.dyc id c0 hc0
          have hspl : nmRL a (splD c0 off ds) := nmRL_spl o3 hnm
          refine go .any (some (id, splD c0 off ds)) E nxt (setO id (splD c0 off ds) dy) al (id :: st) ?_ ?_ h fun res ch hp1 hp2 => ?_
          · have := hc.step (d := .any) hl ho
            rw [hdst] at this; exact this
          · refine ⟨hx.an, fun id2 c hcc => ?_, fun id2 c hcc => ?_, fun id2 hk => ?_, fun j id2 c hcc => ?_⟩
            rotate_left 1
            · by_cases e : id2 = id
              · subst e; exact hx.key id2 c0 hc0
              · rw [lk_setO_other e] at hcc; exact hx.key id2 c hcc
            · obtain ⟨c, h1⟩ := hx.keep id2 hk
              by_cases e : id2 = id
              · subst e; exact ⟨_, lk_setO_same h1⟩
              · exact ⟨c, by rw [lk_setO_other e]; exact h1⟩
            rotate_left 1
            · by_cases e : id2 = id
              · subst e
                rw [lk_setO_same hc0] at hcc; cases hcc
                exact ⟨OL_in (by rw [List.getElem?_append_right (by omega), hl2]; simp) trivial, o2, hspl⟩
              · rw [lk_setO_other e] at hcc
                obtain ⟨h1, h2, h3⟩ := hx.dyc id2 c hcc
                refine ⟨?_, h2, h3⟩
                rw [OL_none (fun c hc => by rcases get_snoc hc with h | ⟨_, h⟩; · rw [List.getElem?_eq_none (by omega)] at h; cases h
                                            · cases h; exact e rfl)]
                rw [← OL_ext (List.prefix_append cacc _) (by omega)]; exact h1
            · have ex : ∀ c2, lk id2 dy = some c2 → ∃ c', lk id2 (setO id (splD c0 off ds) dy) = some c' := by
                intro c2 h2
                by_cases e : id2 = id
                · subst e; exact ⟨_, lk_setO_same h2⟩
                · exact ⟨c2, by rw [lk_setO_other e]; exact h2⟩
              rcases get_snoc hcc with h | ⟨hj, h⟩
              · obtain ⟨⟨c2, h1⟩, h2⟩ := hx.tch j id2 c h
                exact ⟨ex c2 h1, h2.imp _root_.id fun h => by simp [h]⟩
              · cases h
                exact ⟨ex c0 hc0, .inr (by simp)⟩
          · refine ⟨o, .any, some (id, splD c0 off ds), ho, getd hp1, getc hp2, (fun s' h => by rw [hdst] at h; cases h), .inr (.inr (.inr ⟨t, s, x, id, off, r, dx, ds, c0, rfl, hop, hg, hdst, (Srd.ext (pre hp1) (by omega)).1 (hc s _ hdp), fun u e he => ?_, hev, ?_, hcl, hfit, hspl, ?_, fun j c' hj hch => ?_⟩))⟩
            · refine ⟨?_, (Srd.ext (pre hp1) (by omega)).1 (hc u e (hr u e he).2)⟩
              rw [hop]
              have := (hr u e he).1
              cases x with
              | tmp v => simp [rdO] at this; subst this; simp [rdsO, Op.operands, rdO]
              | _ => simp [rdO] at this
            · obtain ⟨ii, h1, h2⟩ := szW_ok hsz
              unfold szW; rw [h1]; simp only; rw [h2]; exact hds
            · rw [← OL_ext (prec hp2) (by omega)]; exact o1
            · have e : ch[j]? = cacc[j]? := by obtain ⟨r, rfl⟩ := prec hp2; rw [List.getElem?_append_left (by omega)]
              rw [e] at hch
              obtain ⟨_, ⟨u, p, q1, q2, q3⟩ | q⟩ := hx.tch j id c' hch
              · exact ⟨p, q2, by rw [q3, alW_ok hal u q1]⟩
              · exact absurd q (noW_ok hno)
        | _ => exact h.elim
      | _ => exact h.elim
    · split at h
      · exact h.elim
      · rename_i h1; exact absurd h1 hst
end Go.Abs
