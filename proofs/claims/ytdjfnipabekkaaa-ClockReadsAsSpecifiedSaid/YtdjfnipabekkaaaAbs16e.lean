/-
  AN ABSTRACT WALK, between the sixteenth and the seventeenth text, the fourth: a region that draws its order, in which some operations (a chain: each behind the one before) turn blocks of the call's own, and all others turn nothing, and don't look at what the chain turns.
-/
import Derived.Test.YtdjfnipabekkaaaAbs16d
namespace Go.Abs

/-- What S knows of T's blocks is what T says. -/
def pE (q : Option Nat) (E : List (Nat × D)) : List (Nat × D) := match q with | none => E | some id => purge id E
/-- Does it name none of these? -/
def nmT : List Nat → D → Prop
  | [], _ => True
  | i :: r, d => mn i d = false ∧ nmT r d
theorem nmT_ok {tc : List Nat} {d : D} (h : nmT tc d) : ∀ i ∈ tc, mn i d = false := by
  induction tc with
  | nil => intro i hi; simp at hi
  | cons x r ih =>
    intro i hi
    rcases List.mem_cons.1 hi with rfl | hi
    · exact h.1
    · exact ih h.2 i hi
theorem nmT_any (tc : List Nat) : nmT tc .any := by
  induction tc with
  | nil => trivial
  | cons x r ih => exact ⟨rfl, ih⟩
theorem nmT_tup (tc : List Nat) (ds : List D) : nmT tc (.tup ds) := by
  induction tc with
  | nil => trivial
  | cons x r ih => exact ⟨rfl, ih⟩
def nmTE (tc : List Nat) : List (Nat × D) → Prop
  | [] => True
  | (_, d) :: r => nmT tc d ∧ nmTE tc r
theorem nmTE_ok {tc : List Nat} : ∀ {E : List (Nat × D)}, nmTE tc E → ∀ t d, lk t E = some d → nmT tc d
  | [], _, t, d, h => by simp [lk] at h
  | (s, e) :: r, ⟨h1, h2⟩, t, d, h => by
    simp only [lk] at h
    split at h
    · cases h; exact h1
    · exact nmTE_ok h2 t d h
def noE (t : Nat) : List (Nat × D) → Prop
  | [] => True
  | (s, _) :: r => ¬ t = s ∧ noE t r
theorem noE_ok {t : Nat} : ∀ {E : List (Nat × D)}, noE t E → lk t E = none
  | [], _ => rfl
  | (s, e) :: r, h => by simp only [lk]; rw [if_neg h.1]; exact noE_ok h.2
def noEs : List Nat → List (Nat × D) → Prop
  | [], _ => True
  | t :: r, E => noE t E ∧ noEs r E
theorem noEs_ok {sl : List Nat} {E : List (Nat × D)} (h : noEs sl E) : ∀ t ∈ sl, lk t E = none := by
  induction sl with
  | nil => intro t ht; simp at ht
  | cons s r ih =>
    intro t ht
    rcases List.mem_cons.1 ht with rfl | ht
    · exact noE_ok h.1
    · exact ih h.2 t ht
/-- The slots of an environment are among these. -/
def inE (sl : List Nat) : List (Nat × D) → Prop
  | [] => True
  | (s, _) :: r => sl.contains s = true ∧ inE sl r
theorem inE_ok {sl : List Nat} : ∀ {E : List (Nat × D)}, inE sl E → ∀ t d, lk t E = some d → t ∈ sl
  | [], _, t, d, h => by simp [lk] at h
  | (s, e) :: r, ⟨h1, h2⟩, t, d, h => by
    simp only [lk] at h
    split at h
    · rename_i e; subst e; simpa using h1
    · exact inE_ok h2 t d h
/-- Is this place in the chain? -/
def nbW (i : Nat) (A B : Prop) : List Nat → Prop
  | [] => B
  | b :: r => (i = b → A) ∧ (¬ i = b → nbW i A B r)
theorem nbW_ok {i : Nat} {A B : Prop} : ∀ {bs : List Nat}, nbW i A B bs → (i ∈ bs ∧ A) ∨ (i ∉ bs ∧ B)
  | [], h => .inr ⟨by simp, h⟩
  | b :: r, h => by
    by_cases e : i = b
    · exact .inl ⟨by simp [e], h.1 e⟩
    · rcases nbW_ok (h.2 e) with ⟨h1, h2⟩ | ⟨h1, h2⟩
      · exact .inl ⟨by simp [h1], h2⟩
      · exact .inr ⟨by simp [e, h1], h2⟩
def dstP (n : Nat) (d : Option Tmp) : Prop := match d with | none => True | some s => s < n
def putE (d : Option Tmp) (x : D) (E : List (Nat × D)) : List (Nat × D) := match d with | none => E | some s => (s, x) :: E
/-- The operations beside the chain. -/
def drcW (G : Glob) (P : Program) (ops : List Oper) (n a : Nat) (own : List (Nat × List D)) (tc bs : List Nat) : List Oper → Nat → List (Nat × D) → (List (Nat × D) → Prop) → Prop
  | [], _, E, k => k E
  | o :: rest, i, E, k => nbW i (dstP n o.dst ∧ drcW G P ops n a own tc bs rest (i + 1) (putE o.dst .any E) k)
      (stb o.op = true ∧ grdW ops o.guard ⟨n, a, E, own⟩
        (fun S => rsW (rdsO o.op) S.env fun r => exD (fun d => ∀ (E' : List (Nat × D)) (X : List (Nat × List D)), opW G P o.op ⟨n, a, r ++ E', own ++ X⟩ fun x T => x = d ∧ T = ⟨n, a, r ++ E', own ++ X⟩) (fun d => nmT tc d ∧ putW o.dst d S fun S => drcW G P ops n a own tc bs rest (i + 1) S.env k) (tgd _))
        (fun S => putW o.dst (.tup []) S fun S => drcW G P ops n a own tc bs rest (i + 1) S.env k)) bs
/-- What is known behind an operation of the chain: of its result, of what was known ahead. -/
def ebW (dst : Option Tmp) (d : D) (pq : Option Nat) (EB : List (Nat × D)) : List (Nat × D) → Prop
  | [] => True
  | (t, e) :: r => ((dst = some t ∧ e = d) ∨ (dst ≠ some t ∧ lkW t EB (fun x => x = e) ∧ ∀ id, pq = some id → mn id e = false)) ∧ ebW dst d pq EB r
theorem ebW_ok {dst : Option Tmp} {d : D} {pq : Option Nat} {EB : List (Nat × D)} : ∀ {E : List (Nat × D)}, ebW dst d pq EB E → ∀ t e, lk t E = some e → (dst = some t ∧ e = d) ∨ (dst ≠ some t ∧ lk t EB = some e ∧ ∀ id, pq = some id → mn id e = false)
  | [], _, t, e, h => by simp [lk] at h
  | (s, x) :: r, ⟨h1, h2⟩, t, e, h => by
    simp only [lk] at h
    split at h
    · rename_i e1; cases h; subst e1
      rcases h1 with h1 | ⟨h1, h3, h4⟩
      · exact .inl h1
      · obtain ⟨y, hy, rfl⟩ := lkW_ok h3
        exact .inr ⟨h1, hy, h4⟩
    · exact ebW_ok h2 t e h
/-- Is the operation carried out? -/
def gdW (ops : List Oper) (g : Option (Nat × Bool)) (E : List (Nat × D)) (b : Bool) : Prop :=
  match g with
  | none => b = true
  | some (j, want) => ∃ og s, ops[j]? = some og ∧ og.dst = some s ∧ ((∃ c, lk s E = some (.bool c) ∧ b = (c == want)) ∨ (lk s E = some (.tup []) ∧ b = false))
/-- The chain, one operation behind the other. -/
def chnW (G : Glob) (P : Program) (ops : List Oper) (n : Nat) (tc sl : List Nat) (ownA : List (Nat × List D)) (E2 : List (Nat × D)) : List Nat → Nat → List (Nat × List D) → List (Nat × D) → (Nat → List (Nat × List D) → List (Nat × D) → Prop) → Prop
  | [], nx, own, EB, K => K nx own EB
  | b :: bs, nx, own, EB, K => ∃ o r d pq nx' own' EB', ops[b]? = some o ∧ wkE E2 r ∧ (∀ p ∈ r, p.1 ∈ rdsO o.op) ∧ ebW o.dst d pq EB EB' ∧ inE sl EB' ∧ wkO own' ownA ∧ (∀ id, pq = some id → id ∈ tc) ∧
      ((gdW ops o.guard E2 true ∧ ∀ E' : List (Nat × D), opW G P o.op ⟨n, nx, EB ++ (r ++ E'), own⟩ fun x T => x = d ∧ T = ⟨n, nx', pE pq (EB ++ (r ++ E')), own'⟩) ∨
        (gdW ops o.guard E2 false ∧ d = .tup [] ∧ pq = none ∧ own' = own)) ∧
      chnW G P ops n tc sl ownA E2 bs nx' own' EB' K
def chOk (l : List Oper) : Nat → List Nat → Bool
  | _, [] => true
  | b, c :: r => (match l[c]? with | some o => dir o b | none => false) && chOk l c r
def chB (l : List Oper) : List Nat → Bool
  | [] => true
  | b :: r => chOk l b r
structure DrcB (l : List Oper) (m : Nat) (bs sl : List Nat) : Prop where
  drw : DrwB l m
  nodup : bs.Nodup
  lt : ∀ b ∈ bs, b < m
  ch : chB l bs = true
  rds : ∀ x ∈ (l.take m).zipIdx, x.2 ∉ bs → (∀ t ∈ rdsO x.1.op ++ (grdSlot l x.1).toList, t ∉ sl) ∧ ∀ s, x.1.dst = some s → s ∉ sl
def drcB (l : List Oper) (m : Nat) (bs sl : List Nat) : Bool :=
  drwB l m && decide bs.Nodup && (bs.all fun b => decide (b < m)) && chB l bs &&
  ((l.take m).zipIdx.all fun x => bs.contains x.2 || (((rdsO x.1.op ++ (grdSlot l x.1).toList).all fun t => !sl.contains t) && match x.1.dst with | none => true | some s => !sl.contains s))
theorem drcB_ok {l : List Oper} {m : Nat} {bs sl : List Nat} (h : drcB l m bs sl = true) : DrcB l m bs sl := by
  simp only [drcB, Bool.and_eq_true, List.all_eq_true, Bool.or_eq_true, decide_eq_true_eq, Bool.not_eq_true'] at h
  obtain ⟨⟨⟨⟨h1, h2⟩, h3⟩, h4⟩, h5⟩ := h
  refine ⟨drwB_ok h1, h2, h3, h4, fun x hx hn => ?_⟩
  · have h6 := (h5 x hx).resolve_left (fun h => hn (by simpa using h))
    refine ⟨fun t ht hts => ?_, fun s hs hss => ?_⟩
    · have := h6.1 t ht
      rw [List.contains_eq_mem] at this
      simp [hts] at this
    · have := h6.2
      rw [hs] at this
      simp [hss] at this
theorem chOk_pre {l : List Oper} : ∀ {r : List Nat} {b : Nat}, chOk l b r = true → ∀ c ∈ r, ∃ x ∈ b :: r, ∃ o, l[c]? = some o ∧ dir o x = true
  | [], _, _, c, hc => by simp at hc
  | d :: r, b, h, c, hc => by
    simp only [chOk, Bool.and_eq_true] at h
    rcases List.mem_cons.1 hc with rfl | hc
    · cases e : l[c]? with
      | none => rw [e] at h; simp at h
      | some o => rw [e] at h; exact ⟨b, by simp, o, rfl, h.1⟩
    · obtain ⟨x, hx, o, ho, hd⟩ := chOk_pre h.2 c hc
      exact ⟨x, List.mem_cons_of_mem _ hx, o, ho, hd⟩
theorem chOk_cut {l : List Oper} {b : Nat} {rest : List Nat} : ∀ {ds : List Nat} {x : Nat}, chOk l x (ds ++ b :: rest) = true → chOk l b rest = true
  | [], x, h => by simp only [List.nil_append, chOk, Bool.and_eq_true] at h; exact h.2
  | y :: ds, x, h => by simp only [List.cons_append, chOk, Bool.and_eq_true] at h; exact chOk_cut h.2
theorem chOk_app {l : List Oper} {b : Nat} {rest : List Nat} : ∀ {ds : List Nat}, chB l (ds ++ b :: rest) = true → chOk l b rest = true
  | [], h => h
  | x :: ds, h => chOk_cut (ds := ds) (x := x) h
theorem lk_mem {α : Type} {s : Nat} {e : α} : ∀ {r : List (Nat × α)}, lk s r = some e → (s, e) ∈ r
  | [], h => by simp [lk] at h
  | (u, d) :: r, h => by
    simp only [lk] at h
    split at h
    · rename_i h1; cases h; subst h1; simp
    · exact List.mem_cons_of_mem _ (lk_mem h)
section
variable (l : List Oper) (env0 : List (Nat × D))
def FQ (G : Glob) (P : Program) (n a : Nat) (own : List (Nat × List D)) (tc bs : List Nat) (res : List D) (i : Nat) : Prop :=
  ∃ o d, l[i]? = some o ∧ res[i]? = some d ∧ (∀ s, o.dst = some s → s < n) ∧ nmT tc d ∧
    ((i ∈ bs ∧ d = .any) ∨ (i ∉ bs ∧
    ((GO l env0 res i o true ∧ ∃ r : List (Nat × D), (∀ t d, (t, d) ∈ r → t ∈ rdsO o.op ∧ Srd l env0 res i t d) ∧
        ∀ (E' : List (Nat × D)) (X : List (Nat × List D)), opW G P o.op ⟨n, a, r ++ E', own ++ X⟩ fun x T => x = d ∧ T = ⟨n, a, r ++ E', own ++ X⟩) ∨
      (GO l env0 res i o false ∧ d = .tup []))))
end
variable {l : List Oper} {env0 : List (Nat × D)}
theorem drc_ext {G : Glob} {P : Program} {n a m : Nat} {own : List (Nat × List D)} {tc bs : List Nat} {k : List (Nat × D) → Prop} (hml : m ≤ l.length) : ∀ (rest : List Oper) (i : Nat) (E : List (Nat × D)) (acc : List D),
    acc.length = i → i ≤ m → (l.take m).drop i = rest → Coh l env0 acc i E → drcW G P l n a own tc bs rest i E k →
    ∃ res E2, acc <+: res ∧ res.length = m ∧ (∀ j, i ≤ j → j < m → FQ l env0 G P n a own tc bs res j) ∧ Coh l env0 res m E2 ∧ k E2
  | [], i, E, acc, hl, hle, hd, hc, h => by
    have hil : i = m := by
      have := congrArg List.length hd; simp at this; omega
    subst hil
    exact ⟨acc, E, List.prefix_refl _, hl, fun j h1 h2 => by omega, hc, h⟩
  | o :: rest, i, E, acc, hl, hle, hd, hc, h => by
    have him : i < m := by
      have := congrArg List.length hd; simp at this; omega
    have ho : l[i]? = some o := by
      have := congrArg (fun z => z[0]?) hd
      simp only [List.getElem?_drop, Nat.add_zero, List.getElem?_cons_zero] at this
      rwa [List.getElem?_take_of_lt him] at this
    have hd2 : (l.take m).drop (i + 1) = rest := by
      have := congrArg (List.drop 1) hd; simpa [List.drop_drop] using this
    have getd : ∀ {d : D} {res : List D}, acc ++ [d] <+: res → res[i]? = some d := by
      rintro d res ⟨r, rfl⟩
      rw [List.append_assoc, List.getElem?_append_right (by omega), hl]; simp
    have pre : ∀ {d : D} {res : List D}, acc ++ [d] <+: res → acc <+: res := fun h => (List.prefix_append _ _).trans h
    have go : ∀ (d : D) (E1 : List (Nat × D)), Coh l env0 (acc ++ [d]) (i + 1) E1 → drcW G P l n a own tc bs rest (i + 1) E1 k → (∀ res, acc ++ [d] <+: res → FQ l env0 G P n a own tc bs res i) →
        ∃ res E2, acc <+: res ∧ res.length = m ∧ (∀ j, i ≤ j → j < m → FQ l env0 G P n a own tc bs res j) ∧ Coh l env0 res m E2 ∧ k E2 := by
      intro d E1 h1 h2 h3
      obtain ⟨res, E2, r1, r2, r3, r4, r5⟩ := drc_ext hml rest (i + 1) E1 (acc ++ [d]) (by simp [hl]) (by omega) hd2 h1 h2
      refine ⟨res, E2, pre r1, r2, fun j h1 h2 => ?_, r4, r5⟩
      by_cases e : j = i
      · subst e; exact h3 res r1
      · exact r3 j (by omega) h2
    unfold drcW at h
    rcases nbW_ok h with ⟨hb, hdst, h⟩ | ⟨hb, hst, h⟩
    · have hstep := hc.step (d := .any) hl ho
      refine go .any _ hstep (by cases e : o.dst <;> simpa [putE, e] using h) fun res hp => ⟨o, .any, ho, getd hp, fun s hs => ?_, nmT_any _, .inl ⟨hb, rfl⟩⟩
      unfold dstP at hdst; rw [hs] at hdst; exact hdst
    · have go2 : ∀ (d : D) (E' : List (Nat × D)), nmT tc d → Coh l env0 acc i E' → (putW o.dst d ⟨n, a, E', own⟩ fun S => drcW G P l n a own tc bs rest (i + 1) S.env k) →
          ((∀ s, o.dst = some s → s < n) → ∀ res, acc ++ [d] <+: res → FQ l env0 G P n a own tc bs res i) →
          ∃ res E2, acc <+: res ∧ res.length = m ∧ (∀ j, i ≤ j → j < m → FQ l env0 G P n a own tc bs res j) ∧ Coh l env0 res m E2 ∧ k E2 := by
        intro d E' hn hc' hp hf
        have hstep := hc'.step (d := d) hl ho
        have : (∀ s, o.dst = some s → s < n) ∧ drcW G P l n a own tc bs rest (i + 1) (match o.dst with | none => E' | some s => (s, d) :: E') k := by
          cases hdst : o.dst with
          | none => rw [hdst] at hp; exact ⟨(fun s hs => by cases hs), hp⟩
          | some s => rw [hdst] at hp; exact ⟨fun s' hs => by cases hs; exact hp.1, hp.2⟩
        exact go d _ hstep this.2 (hf this.1)
      have wanted : ∀ (E' : List (Nat × D)), Coh l env0 acc i E' → GO l env0 acc i o true →
          (rsW (rdsO o.op) E' fun r => exD (fun d => ∀ (E'' : List (Nat × D)) (X : List (Nat × List D)), opW G P o.op ⟨n, a, r ++ E'', own ++ X⟩ fun x T => x = d ∧ T = ⟨n, a, r ++ E'', own ++ X⟩) (fun d => nmT tc d ∧ putW o.dst d ⟨n, a, E', own⟩ fun S => drcW G P l n a own tc bs rest (i + 1) S.env k) (tgd _)) →
          ∃ res E2, acc <+: res ∧ res.length = m ∧ (∀ j, i ≤ j → j < m → FQ l env0 G P n a own tc bs res j) ∧ Coh l env0 res m E2 ∧ k E2 := by
        intro E' hc' hgo hr
        obtain ⟨r, ⟨d, hop, hn, hk⟩, hrr⟩ := rsW_ok hr
        exact go2 d E' hn hc' hk fun hsn res hp => ⟨o, d, ho, getd hp, hsn, hn, .inr ⟨hb, .inl ⟨hgo.ext (pre hp) (by omega), r, fun t e he => ⟨(hrr t e he).1, (Srd.ext (pre hp) (by omega)).1 (hc' t e (hrr t e he).2)⟩, hop⟩⟩⟩
      have skipped : ∀ (E' : List (Nat × D)), Coh l env0 acc i E' → GO l env0 acc i o false → (putW o.dst (.tup []) ⟨n, a, E', own⟩ fun S => drcW G P l n a own tc bs rest (i + 1) S.env k) →
          ∃ res E2, acc <+: res ∧ res.length = m ∧ (∀ j, i ≤ j → j < m → FQ l env0 G P n a own tc bs res j) ∧ Coh l env0 res m E2 ∧ k E2 := by
        intro E' hc' hgo hk
        exact go2 _ E' (nmT_tup _ _) hc' hk fun hsn res hp => ⟨o, _, ho, getd hp, hsn, nmT_tup _ _, .inr ⟨hb, .inr ⟨hgo.ext (pre hp) (by omega), rfl⟩⟩⟩
      unfold grdW at h
      split at h
      · rename_i hg
        exact wanted E hc (by unfold GO; rw [hg]) h
      · rename_i g want hg
        obtain ⟨s, hs2, h⟩ := dstW_ok h
        obtain ⟨og, hog, hogd⟩ : ∃ og, l[g]? = some og ∧ og.dst = some s := by
          cases hx : l[g]? with
          | none => rw [hx] at hs2; cases hs2
          | some og => rw [hx] at hs2; exact ⟨og, rfl, hs2⟩
        obtain ⟨dg, hdg, h⟩ := lkW_ok h
        have hsrc := hc s dg hdg
        have hcons : ∀ b : Bool, dg = .bool b → Coh l env0 acc i ((s, .bool b) :: E) := by
          intro b hb t e he
          simp only [lk] at he
          split at he
          · rename_i e1; cases he; subst e1; rw [← hb]; exact hsrc
          · exact hc t e he
        split at h
        · rename_i c
          by_cases e : c = want
          · exact wanted _ (hcons want (by rw [e])) (by unfold GO; rw [hg]; exact ⟨og, s, hog, hogd, .inl ⟨c, hsrc, by simp [e]⟩⟩) (h.1 e)
          · have e2 : (!want) = c := by cases c <;> cases want <;> simp_all
            exact skipped _ (hcons (!want) (by rw [e2])) (by unfold GO; rw [hg]; exact ⟨og, s, hog, hogd, .inl ⟨c, hsrc, by simp [e]⟩⟩) (h.2 e)
        · exact skipped E hc (by unfold GO; rw [hg]; exact ⟨og, s, hog, hogd, .inr ⟨hsrc, rfl⟩⟩) h
        · exact h.elim

theorem lk_apE {t : Nat} : ∀ {a b : List (Nat × D)}, lk t (a ++ b) = match lk t a with | some d => some d | none => lk t b
  | [], b => rfl
  | (s, e) :: a, b => by
    simp only [List.cons_append, lk]
    split
    · rfl
    · exact lk_apE
theorem lk_apO {α : Type} {t : Nat} : ∀ {a b : List (Nat × α)}, lk t (a ++ b) = match lk t a with | some d => some d | none => lk t b
  | [], b => rfl
  | (s, e) :: a, b => by
    simp only [List.cons_append, lk]
    split
    · rfl
    · exact lk_apO
theorem lk_pE {t : Nat} {q : Option Nat} {E : List (Nat × D)} {d : D} (h : lk t E = some d) (hq : ∀ id, q = some id → mn id d = false) : lk t (pE q E) = some d := by
  cases q with
  | none => exact h
  | some id => exact lk_purge_mk h (hq id rfl)

section
variable {G : Glob} {P : Program} {w0 : Bas} {n a : Nat} {ownA : List (Nat × List D)} {tc bs sl : List Nat} {Q : Exit → Act → World → Prop} {df : List Deferred} {res : List D} {m : Nat} {r : Option Nat} {N : Nat} {E2 : List (Nat × D)} {K : Nat → List (Nat × List D) → List (Nat × D) → Prop}
def InvQ (r : Option Nat) (N : Nat) (G : Glob) (P : Program) (w0 : Bas) (n a : Nat) (ownA : List (Nat × List D)) (tc bs sl : List Nat) (Q : Exit → Act → World → Prop) (df : List Deferred) (l : List Oper) (env0 : List (Nat × D)) (res : List D) (m : Nat) (E2 : List (Nat × D)) (K : Nat → List (Nat × List D) → List (Nat × D) → Prop) (L : Array Bool) (t : Act) (w : World) : Prop :=
  ((∀ j, m ≤ j → ¬ Lst L j) ∧ t.defers = df ∧ ∃ (done rest : List Nat) (nx : Nat) (own : List (Nat × List D)) (EB : List (Nat × D)) (φ : Loc), bs = done ++ rest ∧ (∀ b ∈ done, Lst L b) ∧ (∀ b ∈ rest, ¬ Lst L b) ∧
      chnW G P l n tc sl ownA E2 rest nx own EB K ∧ (∀ id c, lk id ownA = some c → lk id own = some c) ∧ (∀ t d, lk t EB = some d → t ∈ sl) ∧ SatC w0 φ ⟨n, a, [], own⟩ t.tmps w ∧
      (∀ s d, eL l env0 res m L s d → ∃ v, t.tmps[s]? = some v ∧ Rep φ w (FSx φ own w) v d) ∧ ∀ s d, lk s EB = some d → ∃ v, t.tmps[s]? = some v ∧ Rep φ w (FSx φ own w) v d) ∨
  ∃ j0, m ≤ j0 ∧ (∀ j, j < j0 → j < l.length → Lst L j) ∧ (∀ j, j0 ≤ j → ¬ Lst L j) ∧ wpListIn (fw r) N P l.toArray Q (l.drop j0) t w

theorem drc_run (hG : GOk G w0) (hB : DrcB l m bs sl) (hml : m ≤ l.length) (hmr : res.length = m) (hf : ∀ j, j < m → FQ l env0 G P n a ownA tc bs res j)
    (he0 : ∀ t d, lk t env0 = some d → nmT tc d) (hsl : ∀ t ∈ sl, lk t env0 = none)
    (hE2 : Coh l env0 res m E2) (tailOk : ∀ (t : Act) (w : World) (φ : Loc) (nx : Nat) (own : List (Nat × List D)) (EB : List (Nat × D)), t.defers = df → K nx own EB → SatC w0 φ ⟨n, nx, EB ++ E2, own⟩ t.tmps w → wpListIn (fw r) N P l.toArray Q (l.drop m) t w) :
    ∀ (fuel : Nat) (L : Array Bool) (t : Act) (w : World), InvC l L → unl L ≤ fuel → InvQ r N G P w0 n a ownA tc bs sl Q df l env0 res m E2 K L t w → wpAnyIn (fw r) N P .any l.toArray Q fuel L t w := by
  have hBd := hB.drw
  -- all of the head is done: the tail is next
  have toTail : ∀ {L : Array Bool} {t : Act} {w : World}, (∀ j, j < m → Lst L j) → InvQ r N G P w0 n a ownA tc bs sl Q df l env0 res m E2 K L t w → ∃ j0, m ≤ j0 ∧ (∀ j, j < j0 → j < l.length → Lst L j) ∧ (∀ j, j0 ≤ j → ¬ Lst L j) ∧ wpListIn (fw r) N P l.toArray Q (l.drop j0) t w := by
    intro L t w hall h
    rcases h with ⟨h1, hd, done, rest, nx, own, EB, φ, hbs, hdn, hrs, hch, hoA, hEs, hs, he, heb⟩ | h
    · have hr0 : rest = [] := by
        cases rest with
        | nil => rfl
        | cons b r => exact absurd (hall b (hB.lt b (by rw [hbs]; simp))) (hrs b (by simp))
      subst hr0
      refine ⟨m, Nat.le_refl _, fun j hj _ => hall j hj, h1, tailOk t w φ nx own EB hd hch ⟨hs.below, hs.size, hs.own, hs.inj, fun s d hd => ?_, hs.base, hs.pin⟩⟩
      simp only at hd
      rw [lk_apE] at hd
      split at hd
      · rename_i d' e; cases hd; exact heb s _ e
      · refine he s d ?_
        rcases hE2 s d hd with ⟨j, o, q1, q2, q3, q4⟩ | ⟨q1, q2⟩
        · exact .inl ⟨j, o, q1, hall j q1, q2, q3, q4⟩
        · exact .inr ⟨fun j o hj _ hl => q1 j o hj hl, q2⟩
    · exact h
  have finish : ∀ {L : Array Bool} {t : Act} {w : World}, InvC l L → Region.ready .any l.toArray L = [] → InvQ r N G P w0 n a ownA tc bs sl Q df l env0 res m E2 K L t w → Q .normal t w := by
    intro L t w hI hr h
    have hall := all_listed hBd hI.size hr
    obtain ⟨j0, h1, h2, h3, h4⟩ := toTail (fun j hj => hall j (by omega)) h
    have : l.length ≤ j0 := by
      rcases Nat.lt_or_ge j0 l.length with h | h
      · exact absurd (hall j0 h) (h3 j0 (Nat.le_refl _))
      · exact h
    rw [List.drop_of_length_le this] at h4
    exact h4
  -- a slot of the chain is known to no other operation
  have eLsl : ∀ {L : Array Bool} {t : Nat} {d : D}, eL l env0 res m L t d → t ∈ sl → d = .any := by
    rintro L t d (⟨j, o, q1, q2, q3, q4, q5⟩ | ⟨_, q2⟩) ht
    · obtain ⟨o', d', g1, g2, _, _, g3⟩ := hf j q1
      rw [q3] at g1; cases g1
      rw [q5] at g2; cases g2
      rcases g3 with ⟨_, g3⟩ | ⟨g3, _⟩
      · exact g3
      · exact absurd ht ((hB.rds _ (mem_zip (show (l.take m)[j]? = some o by rw [List.getElem?_take_of_lt q1]; exact q3)) g3).2 t q4)
    · rw [hsl t ht] at q2; cases q2
  have eLnm : ∀ {L : Array Bool} {t : Nat} {d : D}, eL l env0 res m L t d → nmT tc d := by
    rintro L t d (⟨j, o, q1, q2, q3, q4, q5⟩ | ⟨_, q2⟩)
    · obtain ⟨o', d', g1, g2, _, g3, _⟩ := hf j q1
      rw [q5] at g2; cases g2; exact g3
    · exact he0 t d q2
  intro fuel
  induction fuel with
  | zero =>
    intro L t w hI hu h
    have hr : Region.ready .any l.toArray L = [] := by
      rw [List.eq_nil_iff_forall_not_mem]
      intro j hj
      have := unl_set (mem_ready.1 hj).1
      omega
    exact ⟨hr, finish hI hr h⟩
  | succ fuel ih =>
    intro L t w hI hu h
    refine ⟨fun hr => finish hI hr h, fun i hi => ?_⟩
    obtain ⟨hun, o, ho, hp⟩ := mem_ready.1 hi
    have ho' : l[i]? = some o := by simpa using ho
    have hil : i < l.length := (List.getElem?_eq_some_iff.1 ho').1
    have hp' : ∀ e ∈ o.after.toList, Region.binds .any e = true → Lst L e.on := fun e he hb => hp e (by simpa using he) hb
    have hnl := lst_false hun
    have hisz : i < L.size := by rw [hI.size]; exact hil
    have hI' : InvC l (L.setIfInBounds i true) := by
      refine ⟨by simp [hI.size], fun j p hj hl e he hb => ?_⟩
      rw [lst_set hisz] at hl ⊢
      rcases hl with rfl | hl
      · rw [ho'] at hj; cases hj; exact .inr (hp' e he hb)
      · exact .inr (hI.closed j p hj hl e he hb)
    have hu' : unl (L.setIfInBounds i true) ≤ fuel := by have := unl_set hun; omega
    unfold wpOpIn
    rw [ho]
    simp only
    by_cases him : m ≤ i
    · -- the tail
      have hall := tail_all hBd hI.closed ho' him hp'
      obtain ⟨j0, h1, h2, h3, h4⟩ := toTail (fun j hj => hall j (by omega)) h
      obtain rfl : j0 = i := by
        rcases Nat.lt_trichotomy j0 i with hlt | he | hgt
        · exact absurd (hall j0 hlt) (h3 j0 (Nat.le_refl _))
        · exact he
        · exact absurd (h2 i hgt hil) hnl
      rw [List.drop_eq_getElem_cons hil] at h4
      have hoe : l[j0] = o := by rw [List.getElem?_eq_getElem hil] at ho'; exact Option.some.inj ho'
      rw [hoe] at h4
      unfold wpListIn at h4
      have next : ∀ a' w', wpListIn (fw r) N P l.toArray Q (l.drop (j0 + 1)) a' w' → wpAnyIn (fw r) N P .any l.toArray Q fuel (L.setIfInBounds j0 true) a' w' := by
        intro a' w' hw
        refine ih _ a' w' hI' hu' (.inr ⟨j0 + 1, by omega, fun j hj hjl => ?_, fun j hj hl => ?_, hw⟩)
        · rw [lst_set hisz]
          by_cases e : j = j0
          · exact .inl e
          · exact .inr (hall j (by omega))
        · rw [lst_set hisz] at hl
          rcases hl with e | hl
          · omega
          · exact h3 j (by omega) hl
      split at h4
      · rename_i hw; rw [if_pos hw]; exact Oper.wpIn_mono next h4
      · rename_i hw; rw [if_neg hw]; exact ⟨h4.1, next _ _ h4.2⟩
    · -- the head
      have him : i < m := by omega
      rcases h with h | ⟨j0, h1, h2, _⟩
      rotate_left 1
      · exact absurd (h2 i (by omega) hil) hnl
      obtain ⟨hA1, hAd, done, rest, nx, own, EB, φ, hbs, hdn, hrs, hch, hoA, hEs, hs, he, heb⟩ := h
      obtain ⟨o2, d, ho2, hres, hdst, hnmd, hfact⟩ := hf i him
      rw [ho'] at ho2; cases ho2
      have rd : ∀ {s d}, s ∈ rdsO o.op ++ (grdSlot l o).toList → Srd l env0 res i s d → ∃ v, t.tmps[s]? = some v ∧ Rep φ w (FSx φ own w) v d := fun ht h => he _ _ (h.eL hBd him ho' ht hp')
      have hsz : t.tmps.size = n := hs.size
      have lt : ∀ {s e}, eL l env0 res m L s e → s < n := by
        intro s e hx
        obtain ⟨u, hu1, _⟩ := he s e hx
        have := (Array.getElem?_eq_some_iff.1 hu1).1
        omega
      have lkE : ∀ {s e}, eL l env0 res m L s e → lk s (EnvOf n (eL l env0 res m L)) = some e := by
        intro s e hx
        rw [lk_EnvOf, if_pos (lt hx)]
        have hex : ∃ d, eL l env0 res m L s d := ⟨e, hx⟩
        unfold fE
        rw [dif_pos hex]
        rw [eL_fun hBd (Classical.choose_spec hex) hx]
      have ofE : ∀ {s e}, lk s (EnvOf n (eL l env0 res m L)) = some e → eL l env0 res m L s e := by
        intro s e hx
        rw [lk_EnvOf] at hx
        split at hx
        · exact fE_ok hx
        · cases hx
      -- the state behind it
      have step : ∀ {t' : Act} {w' : World} {φ' : Loc} {own' : List (Nat × List D)} {EB' : List (Nat × D)} {nx' : Nat} {done' rest' : List Nat} {v : Value}, t' = t.put o.dst v → bs = done' ++ rest' → (∀ b ∈ done', b = i ∨ Lst L b) → (∀ b ∈ rest', b ≠ i ∧ ¬ Lst L b) →
          chnW G P l n tc sl ownA E2 rest' nx' own' EB' K → (∀ id c, lk id ownA = some c → lk id own' = some c) → (∀ t d, lk t EB' = some d → t ∈ sl) → SatC w0 φ' ⟨n, a, [], own'⟩ t.tmps w' →
          (∀ s d, eL l env0 res m L s d → ∃ v, t.tmps[s]? = some v ∧ Rep φ' w' (FSx φ' own' w') v d) → Rep φ' w' (FSx φ' own' w') v d →
          (∀ s e, lk s EB' = some e → ∃ v', (t.put o.dst v).tmps[s]? = some v' ∧ Rep φ' w' (FSx φ' own' w') v' e) →
          wpAnyIn (fw r) N P .any l.toArray Q fuel (L.setIfInBounds i true) t' w' := by
        rintro t' w' φ' own' EB' nx' done' rest' v rfl hbs' hdn' hrs' hch' hoA' hEs' hs' he' hr heb'
        refine ih _ _ w' hI' hu' (.inl ⟨fun j hj hl => ?_, by rw [put_defers]; exact hAd, done', rest', nx', own', EB', φ', hbs', fun b hb => (lst_set hisz).2 (hdn' b hb), fun b hb hl => ?_, hch', hoA', hEs', ?_, fun s e hte => ?_, heb'⟩)
        · rw [lst_set hisz] at hl
          rcases hl with h | h
          · omega
          · exact hA1 j hj h
        · rcases (lst_set hisz).1 hl with h | h
          · exact (hrs' b hb).1 h
          · exact (hrs' b hb).2 h
        · cases hd : o.dst with
          | none => exact hs'
          | some s => exact ⟨hs'.below, by simp [Act.put, hsz], hs'.own, hs'.inj, fun s d hd => by simp [lk] at hd, hs'.base, hs'.pin⟩
        · have old : o.dst ≠ some s → eL l env0 res m L s e → ∃ v', (t.put o.dst v).tmps[s]? = some v' ∧ Rep φ' w' (FSx φ' own' w') v' e := by
            intro hne hx
            obtain ⟨u, hu1, hu2⟩ := he' s e hx
            refine ⟨u, ?_, hu2⟩
            cases hd : o.dst with
            | none => exact hu1
            | some s' =>
              have : s' ≠ s := fun h => hne (by rw [hd, h])
              simp only [Act.put]
              rw [Array.getElem?_setIfInBounds_ne this]; exact hu1
          have new : o.dst = some s → e = d → ∃ v', (t.put o.dst v).tmps[s]? = some v' ∧ Rep φ' w' (FSx φ' own' w') v' e := by
            intro hd hed
            subst hed
            rw [hd]
            exact ⟨v, by simp only [Act.put]; rw [Array.getElem?_setIfInBounds_self_of_lt (by rw [hsz]; exact hdst s hd)], hr⟩
          rcases hte with ⟨j, p, q1, q2, q3, q4, q5⟩ | ⟨q1, q2⟩
          · rw [lst_set hisz] at q2
            by_cases hji : j = i
            · subst hji
              rw [ho'] at q3; cases q3
              exact new q4 (Option.some.inj (q5.symm.trans hres))
            · have q2 : Lst L j := q2.resolve_left hji
              exact old (fun hd => hji (nodup_dst hBd.nodup q1 him q3 ho' q4 hd)) (.inl ⟨j, p, q1, q2, q3, q4, q5⟩)
          · exact old (q1 i o him (by rw [lst_set hisz]; exact .inl rfl) ho') (.inr ⟨fun j p hj hl hp => q1 j p hj (by rw [lst_set hisz]; exact .inr hl) hp, q2⟩)
      have keep : ∀ {v : Value} {s : Nat} {u : Value}, o.dst ≠ some s → t.tmps[s]? = some u → (t.put o.dst v).tmps[s]? = some u := by
        intro v s u hne hu1
        cases hd : o.dst with
        | none => exact hu1
        | some s' =>
          have : s' ≠ s := fun h => hne (by rw [hd, h])
          simp only [Act.put]
          rw [Array.getElem?_setIfInBounds_ne this]; exact hu1
      -- the guard
      have grdS : ∀ {g : Nat} {want : Bool} {og : Oper} {s : Nat}, o.guard = some (g, want) → l[g]? = some og → og.dst = some s → s ∈ rdsO o.op ++ (grdSlot l o).toList := by
        intro g want og s hg hog hogd; simp [grdSlot, hg, hog, hogd]
      have grdB : ∀ {g : Nat} {want : Bool} {og : Oper} {s : Nat} {c : Bool}, o.guard = some (g, want) → l[g]? = some og → og.dst = some s → (∃ v, t.tmps[s]? = some v ∧ Rep φ w (FSx φ own w) v (.bool c)) → Region.wanted o (yielded l.toArray t.tmps) = (c == want) := by
        rintro g want og s c hg hog hogd ⟨v, hv, hrep⟩
        unfold Region.wanted
        rw [hg]
        simp only
        rw [yielded_at (by rw [hog]; exact hogd) hv, hrep.bool_inv]
        cases c <;> cases want <;> rfl
      have grdN : ∀ {g : Nat} {want : Bool} {og : Oper} {s : Nat}, o.guard = some (g, want) → l[g]? = some og → og.dst = some s → (∃ v, t.tmps[s]? = some v ∧ Rep φ w (FSx φ own w) v (.tup [])) → Region.wanted o (yielded l.toArray t.tmps) = false := by
        rintro g want og s hg hog hogd ⟨v, hv, hrep⟩
        obtain ⟨vs, rfl, _⟩ := hrep.tup_inv
        unfold Region.wanted
        rw [hg]
        simp only
        rw [yielded_at (by rw [hog]; exact hogd) hv]; rfl
      have grd : ∀ {b : Bool}, GO l env0 res i o b → Region.wanted o (yielded l.toArray t.tmps) = b := by
        intro b hgo
        unfold GO at hgo
        split at hgo
        · rename_i hg; unfold Region.wanted; rw [hg]; exact hgo.symm
        · rename_i g want hg
          obtain ⟨og, s, hog, hogd, hc⟩ := hgo
          rcases hc with ⟨c, hsrc, rfl⟩ | ⟨hsrc, rfl⟩
          · exact grdB hg hog hogd (rd (grdS hg hog hogd) hsrc)
          · exact grdN hg hog hogd (rd (grdS hg hog hogd) hsrc)
      -- what is known at the end of what an operation reads, is known here
      have srd2 : ∀ {s e}, s ∈ rdsO o.op ++ (grdSlot l o).toList → lk s E2 = some e → eL l env0 res m L s e := by
        intro s e hs1 hs2
        refine Srd.eL hBd him ho' hs1 hp' ?_
        rcases hE2 s e hs2 with ⟨j, p, q1, q2, q3, q4⟩ | ⟨q1, q2⟩
        · have := hBd.reads _ (mem_zip (show (l.take m)[i]? = some o by rw [List.getElem?_take_of_lt him]; exact ho')) s hs1 _ (mem_zip (show (l.take m)[j]? = some p by rw [List.getElem?_take_of_lt q1]; exact q2)) q3
          exact .inl ⟨j, p, this.1, q2, q3, q4⟩
        · exact .inr ⟨fun j p hj hp => q1 j p (by omega) hp, q2⟩
      rcases hfact with ⟨hib, rfl⟩ | ⟨hib, hfact⟩
      · -- an operation of the chain: it is the next one
        obtain ⟨b, rest, rfl⟩ : ∃ b r, rest = b :: r := by
          cases rest with
          | nil => rw [List.append_nil] at hbs; exact absurd (hdn i (hbs ▸ hib)) hnl
          | cons b r => exact ⟨b, r, rfl⟩
        have hmem : i ∈ b :: rest := by
          rw [hbs] at hib
          rcases List.mem_append.1 hib with h | h
          · exact absurd (hdn i h) hnl
          · exact h
        have hchain : chOk l b rest = true := by
          have h2 := hB.ch
          rw [hbs] at h2
          exact chOk_app h2
        obtain rfl : b = i := by
          rcases List.mem_cons.1 hmem with h | h
          · exact h.symm
          · obtain ⟨x, hx, o2, ho2, hdr⟩ := chOk_pre hchain i h
            rw [ho'] at ho2; cases ho2
            obtain ⟨e, he2, hb2⟩ := List.any_eq_true.1 hdr
            simp only [Bool.and_eq_true, beq_iff_eq] at hb2
            have := hp' e he2 hb2.1
            rw [hb2.2] at this
            exact absurd this (hrs x hx)
        have hnd : (done ++ b :: rest).Nodup := hbs ▸ hB.nodup
        have hbr : b ∉ rest := (List.nodup_cons.1 (List.nodup_append.1 hnd).2.1).1
        obtain ⟨o2, rr, d, pq, nx', own', EB', ho2, hr2, hrr, hEB, hin, hoA2, hpq, hcase, hch2⟩ := hch
        rw [ho'] at ho2; cases ho2
        have hrr2 : ∀ s e, lk s rr = some e → eL l env0 res m L s e := by
          intro s e hx
          have hp1 := lk_mem hx
          exact srd2 (by simp [hrr _ hp1]) (wkE_ok hr2 s e hx)
        have hbs2 : bs = (done ++ [b]) ++ rest := by rw [hbs]; simp
        have hdn2 : ∀ c ∈ done ++ [b], c = b ∨ Lst L c := by
          intro c hc
          rcases List.mem_append.1 hc with h | h
          · exact .inr (hdn c h)
          · exact .inl (by simpa using h)
        have hrs2 : ∀ c ∈ rest, c ≠ b ∧ ¬ Lst L c := fun c hc => ⟨fun e => hbr (e ▸ hc), hrs c (by simp [hc])⟩
        have gdS : ∀ {x : Bool}, gdW l o.guard E2 x → Region.wanted o (yielded l.toArray t.tmps) = x := by
          intro x hg
          unfold gdW at hg
          split at hg
          · rename_i hg2; unfold Region.wanted; rw [hg2]; exact hg.symm
          · rename_i g want hg2
            obtain ⟨og, s, hog, hogd, hc⟩ := hg
            rcases hc with ⟨c, hsrc, rfl⟩ | ⟨hsrc, rfl⟩
            · exact grdB hg2 hog hogd (he _ _ (srd2 (grdS hg2 hog hogd) hsrc))
            · exact grdN hg2 hog hogd (he _ _ (srd2 (grdS hg2 hog hogd) hsrc))
        rcases hcase with ⟨hg, hop⟩ | ⟨hg, rfl, rfl, rfl⟩
        · rw [gdS hg, if_pos rfl]
          have hEn : ∀ s e, lk s (EB ++ (rr ++ EnvOf n (eL l env0 res m L))) = some e → ∃ v, t.tmps[s]? = some v ∧ Rep φ w (FSx φ own w) v e := by
            intro s e hx
            rw [lk_apE] at hx
            split at hx
            · rename_i d' e1; cases hx; exact heb s _ e1
            · rw [lk_apE] at hx
              split at hx
              · rename_i d' e1; cases hx; exact he s _ (hrr2 s _ e1)
              · exact he s e (ofE hx)
          have hs2 : SatC w0 φ ⟨n, nx, EB ++ (rr ++ EnvOf n (eL l env0 res m L)), own⟩ t.tmps w := ⟨hs.below, hs.size, hs.own, hs.inj, fun s d hd => hEn s d hd, hs.base, hs.pin⟩
          refine opW_ok hG hs2 o (hop _) ?_
          rintro v w' ⟨φ', x, S', ⟨rfl, rfl⟩, hs3, hr3, _⟩
          refine step rfl hbs2 hdn2 hrs2 hch2 (fun id c hc => wkO_ok hoA2 id c hc) (inE_ok hin) ⟨hs3.below, hs3.size, hs3.own, hs3.inj, fun s d hd => by simp [lk] at hd, hs3.base, hs3.pin⟩ (fun s e hx => ?_) (.ro (.any v)) fun s e hx => ?_
          · by_cases hany : e = .any
            · subst hany
              obtain ⟨u, hu1, _⟩ := he s _ hx
              exact ⟨u, hu1, .ro (.any u)⟩
            · refine hs3.env s e (lk_pE ?_ fun id hid => nmT_ok (eLnm hx) id (hpq id hid))
              rw [lk_apE]
              have h1 : lk s EB = none := by
                cases e1 : lk s EB with
                | none => rfl
                | some d' => exact absurd (eLsl hx (hEs s d' e1)) hany
              rw [h1]
              simp only
              rw [lk_apE]
              cases e2 : lk s rr with
              | none => exact lkE hx
              | some d' => simp only; rw [eL_fun hBd (hrr2 s d' e2) hx]
          · rcases ebW_ok hEB s e hx with ⟨h1, rfl⟩ | ⟨h1, h2, h3⟩
            · rw [h1]
              exact ⟨v, by simp only [Act.put]; rw [Array.getElem?_setIfInBounds_self_of_lt (by rw [hsz]; exact hdst s h1)], hr3⟩
            · obtain ⟨u, hu1, hu2⟩ := hs3.env s e (lk_pE (by rw [lk_apE, h2]) h3)
              exact ⟨u, keep h1 hu1, hu2⟩
        · rw [gdS hg, if_neg (by simp)]
          refine ⟨fun _ _ => trivial, ?_⟩
          refine step rfl hbs2 hdn2 hrs2 hch2 hoA (inE_ok hin) hs he (.ro (.any _)) fun s e hx => ?_
          rcases ebW_ok hEB s e hx with ⟨h1, rfl⟩ | ⟨h1, h2, h3⟩
          · rw [h1]
            exact ⟨undef, by simp only [Act.put]; rw [Array.getElem?_setIfInBounds_self_of_lt (by rw [hsz]; exact hdst s h1)], .ro (.tup rfl fun i v d hv => by simp [undef] at hv)⟩
          · obtain ⟨u, hu1, hu2⟩ := heb s e h2
            exact ⟨u, keep h1 hu1, hu2⟩
      · -- an operation beside the chain
        have hzip := mem_zip (show (l.take m)[i]? = some o by rw [List.getElem?_take_of_lt him]; exact ho')
        obtain ⟨hrd, hds⟩ := hB.rds _ hzip hib
        have hdsl : ∀ s, s ∈ sl → o.dst ≠ some s := fun s hs h => hds s h hs
        have hrs2 : ∀ b ∈ rest, b ≠ i ∧ ¬ Lst L b := fun b hb => ⟨fun e => hib (by rw [hbs, ← e]; simp [hb]), hrs b hb⟩
        rcases hfact with ⟨hgo, rr, hr, hop⟩ | ⟨hgo, rfl⟩
        · rw [grd hgo, if_pos rfl]
          have hrr2 : ∀ s e, (s, e) ∈ rr → eL l env0 res m L s e := fun s e hx => (hr s e hx).2.eL hBd him ho' (by simp [(hr s e hx).1]) hp'
          have hEn : ∀ s e, lk s (rr ++ (EB ++ EnvOf n (eL l env0 res m L))) = some e → ∃ v, t.tmps[s]? = some v ∧ Rep φ w (FSx φ own w) v e := by
            intro s e hx
            rcases lk_app hx with hx | ⟨_, hx⟩
            · exact he s e (hrr2 s e hx)
            · rw [lk_apE] at hx
              split at hx
              · rename_i d' e1; cases hx; exact heb s _ e1
              · exact he s e (ofE hx)
          have hOO : ∀ j, lk j (ownA ++ own) = lk j own := by
            intro j
            rw [lk_apO]
            cases e : lk j ownA with
            | none => rfl
            | some c => simp only; exact (hoA j c e).symm
          have hs2 : SatC w0 φ ⟨n, a, rr ++ (EB ++ EnvOf n (eL l env0 res m L)), ownA ++ own⟩ t.tmps w :=
            SatC.congr_own (own := own) ⟨hs.below, hs.size, hs.own, hs.inj, fun s d hd => hEn s d hd, hs.base, hs.pin⟩ hOO
          refine opW_ok hG hs2 o (hop _ _) ?_
          rintro v w' ⟨φ', x, S', ⟨rfl, rfl⟩, hs3, hr3, _⟩
          have hs4 : SatC w0 φ' ⟨n, a, rr ++ (EB ++ EnvOf n (eL l env0 res m L)), own⟩ t.tmps w' := SatC.congr_own (own := ownA ++ own) hs3 fun j => (hOO j).symm
          have hFF : ∀ b, FSx φ' (ownA ++ own) w' b → FSx φ' own w' b := fun b hb => ⟨hb.1, fun j c hc => hb.2 j c (by rw [hOO]; exact hc), hb.3⟩
          refine step rfl hbs (fun b hb => .inr (hdn b hb)) hrs2 hch hoA hEs ⟨hs4.below, hs4.size, hs4.own, hs4.inj, fun s d hd => by simp [lk] at hd, hs4.base, hs4.pin⟩ (fun s e hx => ?_) (hr3.mono (fun _ _ => rfl) hFF) fun s e hx => ?_
          · by_cases hany : e = .any
            · subst hany
              obtain ⟨u, hu1, _⟩ := he s _ hx
              exact ⟨u, hu1, .ro (.any u)⟩
            · refine hs4.env s e (lk_app_mk ?_ fun e' he' => eL_fun hBd (hrr2 s e' he') hx)
              rw [lk_apE]
              have h1 : lk s EB = none := by
                cases e1 : lk s EB with
                | none => rfl
                | some d' => exact absurd (eLsl hx (hEs s d' e1)) hany
              rw [h1]
              exact lkE hx
          · obtain ⟨u, hu1, hu2⟩ := hs4.env s e (lk_app_mk (by rw [lk_apE, hx]) fun e' he' => absurd (hEs s e hx) (hrd s (by simp [(hr s e' he').1])))
            exact ⟨u, keep (hdsl s (hEs s e hx)) hu1, hu2⟩
        · rw [grd hgo, if_neg (by simp)]
          refine ⟨fun _ _ => trivial, ?_⟩
          refine step rfl hbs (fun b hb => .inr (hdn b hb)) hrs2 hch hoA hEs hs he (.ro (.tup rfl fun i v d hv => by simp [undef] at hv)) fun s e hx => ?_
          obtain ⟨u, hu1, hu2⟩ := heb s e hx
          exact ⟨u, keep (hdsl s (hEs s e hx)) hu1, hu2⟩
end
/-- A region that draws its order, with a chain. tc: the blocks that the chain turns or makes; sl: the chain's slots; bs: the chain; E0, ownA: what is known to the others; EB: .. to the chain. -/
def rgnC (G : Glob) (P : Program) (l : List Oper) (m : Nat) (tc sl bs : List Nat) (E0 EB : List (Nat × D)) (ownA : List (Nat × List D)) (S : St) (k : St → Prop) : Prop :=
  wkE S.env E0 ∧ wkE S.env EB ∧ wkO S.own ownA ∧ nmTE tc E0 ∧ noEs sl E0 ∧ inE sl EB ∧
    drcW G P l S.n S.nx ownA tc bs (l.take m) 0 E0 fun E2 => chnW G P l S.n tc sl ownA E2 bs S.nx S.own EB fun nx own EB' => opsW G P l (l.drop m) ⟨S.n, nx, EB' ++ E2, own⟩ k
theorem drc_ok {r : Option Nat} {N : Nat} {G : Glob} {P : Program} {w0 : Bas} {w : World} {φ : Loc} {S : St} {a : Act} {k : St → Prop} {Q : Exit → Act → World → Prop} {l : List Oper} {id m : Nat} {tc sl bs : List Nat} {E0 EB : List (Nat × D)} {ownA : List (Nat × List D)} (hG : GOk G w0) (hm : P.follows .mixedOrders = true) (hml : m ≤ l.length) (hB : drcB l m bs sl = true)
    (hs : SatC w0 φ S a.tmps w) (h : rgnC G P l m tc sl bs E0 EB ownA S k) (hn : ∀ S' a' w' φ', k S' → SatC w0 φ' S' a'.tmps w' → S'.n = S.n → a'.defers = a.defers → Q .normal a' w') : (Code.region id l.toArray true).wpIn (fw r) N P Q a w := by
  obtain ⟨h1, h2, h3, h4, h5, h6, h⟩ := h
  have hB := drcB_ok hB
  obtain ⟨res, E2, _, r2, r3, r4, r5⟩ := drc_ext (l := l) (env0 := E0) hml (l.take m) 0 E0 [] rfl (Nat.zero_le _) (by simp) (fun t d hd => .inr ⟨fun j o hj => by omega, hd⟩) h
  refine wpIn_region_any hm ?_
  have hsz : l.toArray.size = l.length := by simp
  rw [hsz]
  have hs2 := hs.drew
  refine drc_run (w0 := w0) (n := S.n) (a := S.nx) (ownA := ownA) (tc := tc) (bs := bs) (sl := sl) (df := a.defers) (res := res) (m := m) (env0 := E0) (E2 := E2) (K := fun nx own EB' => opsW G P l (l.drop m) ⟨S.n, nx, EB' ++ E2, own⟩ k) hG hB hml r2 (fun j hj => r3 j (Nat.zero_le _) hj) (nmTE_ok h4) (noEs_ok h5) r4
    (fun t w φ nx own EB' hd hK hs' => opsW_ok hG hs' hK fun S2 a2 w2 φ2 q1 q2 q3 q4 => hn S2 a2 w2 φ2 q1 q2 q3 (q4.trans hd)) l.length _ a _ ⟨by simp, fun j o hj hl => ?_⟩ ?_ (.inl ⟨fun j hj hl => ?_, rfl, [], bs, S.nx, S.own, EB, φ, rfl, by simp, fun b _ => lst_none, r5, wkO_ok h3, inE_ok h6, ?_, fun s d hd => ?_, fun s d hd => ?_⟩)
  · exact absurd hl lst_none
  · unfold unl; simp
  · exact absurd hl lst_none
  · exact ⟨hs2.below, hs2.size, hs2.own, hs2.inj, fun s d hd => by simp [lk] at hd, hs2.base, hs2.pin⟩
  · rcases hd with ⟨j, o, q1, q2, q3, q4, q5⟩ | ⟨_, q2⟩
    · exact absurd q2 lst_none
    · exact hs2.env s d (wkE_ok h1 s d q2)
  · exact hs2.env s d (wkE_ok h2 s d hd)
#print axioms drc_ok
end Go.Abs
