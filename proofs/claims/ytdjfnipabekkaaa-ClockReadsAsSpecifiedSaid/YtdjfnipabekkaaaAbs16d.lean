/-
  AN ABSTRACT WALK, between the sixteenth and the seventeenth text, the third: such a region, run in whatever order the edges allow.
-/
import Derived.Test.YtdjfnipabekkaaaAbs16c
namespace Go.Abs
theorem lk_purge_mk {id s : Nat} : ∀ {env : List (Nat × D)} {d : D}, lk s env = some d → mn id d = false → lk s (purge id env) = some d
  | [], d, h, _ => by simp [lk] at h
  | (t, e) :: r, d, h, hm => by
    simp only [lk] at h
    by_cases e1 : s = t
    · rw [if_pos e1] at h; cases h
      simp only [purge, List.map_cons, lk]
      rw [if_pos e1, if_neg (by rw [hm]; simp)]
    · rw [if_neg e1] at h
      have ih := lk_purge_mk (id := id) h hm
      simp only [purge, List.map_cons, lk] at ih ⊢
      rw [if_neg e1]; exact ih
section
variable {G : Glob} {P : Program} {w0 : Bas} {n a : Nat} {own O0 : List (Nat × List D)} {Q : Exit → Act → World → Prop} {df : List Deferred} {res : List D} {ch : List (Option (Nat × List D))} {m : Nat} {l : List Oper} {env0 : List (Nat × D)} {r : Option Nat} {N : Nat}
def InvX (r : Option Nat) (N : Nat) (w0 : Bas) (P : Program) (n a : Nat) (O0 : List (Nat × List D)) (Q : Exit → Act → World → Prop) (df : List Deferred) (l : List Oper) (env0 : List (Nat × D)) (res : List D) (ch : List (Option (Nat × List D))) (m : Nat) (L : Array Bool) (t : Act) (w : World) : Prop :=
  ((∀ j, m ≤ j → ¬ Lst L j) ∧ t.defers = df ∧ ∃ φ O, (∀ id, lk id O = OL O0 ch (Lst L) m id) ∧ SatC w0 φ ⟨n, a, [], O⟩ t.tmps w ∧ ∀ s d, eL l env0 res m L s d → ∃ v, t.tmps[s]? = some v ∧ Rep φ w (FSx φ O w) v d) ∨
  ∃ j0, m ≤ j0 ∧ (∀ j, j < j0 → j < l.length → Lst L j) ∧ (∀ j, j0 ≤ j → ¬ Lst L j) ∧ wpListIn (fw r) N P l.toArray Q (l.drop j0) t w

theorem FX.later (hB : DrwB l m) (hf : ∀ j, j < m → FX l env0 G P n a own O0 res ch j) {L : Array Bool} (hc : Closed l L) {i id : Nat} {c : List D} (hi : ch[i]? = some (some (id, c))) (him : i < m) (hL : ¬ Lst L i) :
    ∀ j c', i ≤ j → j < m → ch[j]? = some (some (id, c')) → ¬ Lst L j := by
  intro j c' hij hjm hj hl
  by_cases e : j = i
  · subst e; exact hL hl
  obtain ⟨o, d, c2, ho, _, hc2, _, h | h | h | h⟩ := hf j hjm
  · rw [h.1, hj] at hc2; cases hc2
  · obtain ⟨t, s, id', cs, rfl, _, _, _, _, _, _, _, _, hno⟩ := h
    rw [hj] at hc2; cases hc2
    exact hno i c (by omega) hi
  · obtain ⟨s, id', cs, r, rfl, _, _, _, _, _, _, _, _, _, hno⟩ := h
    rw [hj] at hc2; cases hc2
    exact hno i c (by omega) hi
  · obtain ⟨t, s, x, id', off, r, dx, ds, c0, rfl, hop, _, _, _, _, _, _, _, _, _, _, hpre⟩ := h
    rw [hj] at hc2
    obtain rfl : id = id' := by cases hc2; rfl
    obtain ⟨p, hp, hpd⟩ := hpre i c (by omega) hi
    have := hB.reads _ (mem_zip (by rw [List.getElem?_take_of_lt hjm]; exact ho)) s (by simp [hop, rdsO, Op.operands, rdO]) _ (mem_zip (by rw [List.getElem?_take_of_lt him]; exact hp)) hpd
    obtain ⟨e, he, hb⟩ := List.any_eq_true.1 this.2
    simp only [Bool.and_eq_true, beq_iff_eq] at hb
    have := hc j o ho hl e he hb.1
    rw [hb.2] at this
    exact hL this

theorem drx_run (hG : GOk G w0) (hB : DrwB l m) (hml : m ≤ l.length) (hcm : ch.length = m) (hf : ∀ j, j < m → FX l env0 G P n a own O0 res ch j)
    (h0 : ∀ id c, lk id O0 = some c → nmRL a c) (he0 : ∀ t d, lk t env0 = some d → nmR a d) (hown : ∀ id c, lk id own = some c → lk id O0 = some c ∧ ∀ (j : Nat) (c' : List D), j < m → ch[j]? ≠ some (some (id, c')))
    (E2 : List (Nat × D)) (hE2 : Coh l env0 res m E2) (tailOk : ∀ (t : Act) (w : World) (φ : Loc) (O : List (Nat × List D)), t.defers = df → (∀ id, lk id O = OL O0 ch (fun _ => True) m id) → SatC w0 φ ⟨n, a, E2, O⟩ t.tmps w → wpListIn (fw r) N P l.toArray Q (l.drop m) t w) :
    ∀ (fuel : Nat) (L : Array Bool) (t : Act) (w : World), InvC l L → unl L ≤ fuel → InvX r N w0 P n a O0 Q df l env0 res ch m L t w → wpAnyIn (fw r) N P .any l.toArray Q fuel L t w := by
  have chnm : ∀ (j id : Nat) (c : List D), ch[j]? = some (some (id, c)) → nmRL a c := by
    intro j id c hj
    have hjm : j < m := by have := (List.getElem?_eq_some_iff.1 hj).1; omega
    obtain ⟨o, d, c2, _, _, hc2, _, h | h | h | h⟩ := hf j hjm
    · rw [h.1, hj] at hc2; cases hc2
    · obtain ⟨_, _, id', cs, rfl, _, _, _, _, _, hn, _⟩ := h
      rw [hj] at hc2; cases hc2; exact hn
    · obtain ⟨_, id', cs, _, rfl, _, _, _, hn, _⟩ := h
      rw [hj] at hc2; cases hc2; exact hn
    · obtain ⟨_, _, _, id', off, _, _, ds, c0, rfl, _, _, _, _, _, _, _, _, _, hn, _⟩ := h
      rw [hj] at hc2; cases hc2; exact hn
  have toTail : ∀ {L : Array Bool} {t : Act} {w : World}, (∀ j, j < m → Lst L j) → InvX r N w0 P n a O0 Q df l env0 res ch m L t w → ∃ j0, m ≤ j0 ∧ (∀ j, j < j0 → j < l.length → Lst L j) ∧ (∀ j, j0 ≤ j → ¬ Lst L j) ∧ wpListIn (fw r) N P l.toArray Q (l.drop j0) t w := by
    intro L t w hall h
    rcases h with ⟨h1, hd, φ, O, hO, hs, he⟩ | h
    · refine ⟨m, Nat.le_refl _, fun j hj _ => hall j hj, h1, tailOk t w φ O hd (fun id => by rw [hO]; exact OL_congr fun j c hj _ => ⟨fun _ => trivial, fun _ => hall j hj⟩) ⟨hs.below, hs.size, hs.own, hs.inj, fun s d hd => he s d ?_, hs.base, hs.pin⟩⟩
      rcases hE2 s d hd with ⟨j, o, q1, q2, q3, q4⟩ | ⟨q1, q2⟩
      · exact .inl ⟨j, o, q1, hall j q1, q2, q3, q4⟩
      · exact .inr ⟨fun j o hj _ hl => q1 j o hj hl, q2⟩
    · exact h
  have finish : ∀ {L : Array Bool} {t : Act} {w : World}, InvC l L → Region.ready .any l.toArray L = [] → InvX r N w0 P n a O0 Q df l env0 res ch m L t w → Q .normal t w := by
    intro L t w hI hr h
    have hall := all_listed hB hI.size hr
    obtain ⟨j0, h1, h2, h3, h4⟩ := toTail (fun j hj => hall j (by omega)) h
    have : l.length ≤ j0 := by
      rcases Nat.lt_or_ge j0 l.length with h | h
      · exact absurd (hall j0 h) (h3 j0 (Nat.le_refl _))
      · exact h
    rw [List.drop_of_length_le this] at h4
    exact h4
  intro fuel
  induction fuel with
  | zero =>
    intro L t w hI hu h
    have hr : Region.ready .any l.toArray L = [] := by
      rw [List.eq_nil_iff_forall_not_mem]
      intro j hj
      have := unl_set (mem_ready.1 hj).1
      omega
    exact ⟨hr, finish hI hr h⟩
  | succ fuel ih =>
    intro L t w hI hu h
    refine ⟨fun hr => finish hI hr h, fun i hi => ?_⟩
    obtain ⟨hun, o, ho, hp⟩ := mem_ready.1 hi
    have ho' : l[i]? = some o := by simpa using ho
    have hil : i < l.length := (List.getElem?_eq_some_iff.1 ho').1
    have hp' : ∀ e ∈ o.after.toList, Region.binds .any e = true → Lst L e.on := fun e he hb => hp e (by simpa using he) hb
    have hnl := lst_false hun
    have hisz : i < L.size := by rw [hI.size]; exact hil
    have hI' : InvC l (L.setIfInBounds i true) := by
      refine ⟨by simp [hI.size], fun j p hj hl e he hb => ?_⟩
      rw [lst_set hisz] at hl ⊢
      rcases hl with rfl | hl
      · rw [ho'] at hj; cases hj; exact .inr (hp' e he hb)
      · exact .inr (hI.closed j p hj hl e he hb)
    have hu' : unl (L.setIfInBounds i true) ≤ fuel := by have := unl_set hun; omega
    unfold wpOpIn
    rw [ho]
    simp only
    by_cases him : m ≤ i
    · -- the tail
      have hall := tail_all hB hI.closed ho' him hp'
      obtain ⟨j0, h1, h2, h3, h4⟩ := toTail (fun j hj => hall j (by omega)) h
      obtain rfl : j0 = i := by
        rcases Nat.lt_trichotomy j0 i with hlt | he | hgt
        · exact absurd (hall j0 hlt) (h3 j0 (Nat.le_refl _))
        · exact he
        · exact absurd (h2 i hgt hil) hnl
      rw [List.drop_eq_getElem_cons hil] at h4
      have hoe : l[j0] = o := by rw [List.getElem?_eq_getElem hil] at ho'; exact Option.some.inj ho'
      rw [hoe] at h4
      unfold wpListIn at h4
      have next : ∀ a' w', wpListIn (fw r) N P l.toArray Q (l.drop (j0 + 1)) a' w' → wpAnyIn (fw r) N P .any l.toArray Q fuel (L.setIfInBounds j0 true) a' w' := by
        intro a' w' hw
        refine ih _ a' w' hI' hu' (.inr ⟨j0 + 1, by omega, fun j hj hjl => ?_, fun j hj hl => ?_, hw⟩)
        · rw [lst_set hisz]
          by_cases e : j = j0
          · exact .inl e
          · exact .inr (hall j (by omega))
        · rw [lst_set hisz] at hl
          rcases hl with e | hl
          · omega
          · exact h3 j (by omega) hl
      split at h4
      · rename_i hw; rw [if_pos hw]; exact Oper.wpIn_mono next h4
      · rename_i hw; rw [if_neg hw]; exact ⟨h4.1, next _ _ h4.2⟩
    · -- the head
      have him : i < m := by omega
      have hA : (∀ j, m ≤ j → ¬ Lst L j) ∧ t.defers = df ∧ ∃ φ O, (∀ id, lk id O = OL O0 ch (Lst L) m id) ∧ SatC w0 φ ⟨n, a, [], O⟩ t.tmps w ∧ ∀ s d, eL l env0 res m L s d → ∃ v, t.tmps[s]? = some v ∧ Rep φ w (FSx φ O w) v d := by
        rcases h with h | ⟨j0, h1, h2, _⟩
        · exact h
        · exact absurd (h2 i (by omega) hil) hnl
      obtain ⟨hA1, hAd, φ, O, hO, hs, he⟩ := hA
      obtain ⟨o2, d, c, ho2, hres, hch, hdst, hfact⟩ := hf i him
      rw [ho'] at ho2; cases ho2
      -- what an operation reads is known
      have rd : ∀ {s d}, s ∈ rdsO o.op ++ (grdSlot l o).toList → Srd l env0 res i s d → ∃ v, t.tmps[s]? = some v ∧ Rep φ w (FSx φ O w) v d := fun ht h => he _ _ (h.eL hB him ho' ht hp')
      -- what the blocks hold behind it
      have same : c = none → ∀ id, OL O0 ch (Lst (L.setIfInBounds i true)) m id = OL O0 ch (Lst L) m id := by
        rintro rfl id
        refine OL_congr fun j c hj hc => ?_
        rw [lst_set hisz]
        exact ⟨fun h => h.resolve_left (fun e => by subst e; rw [hc] at hch; cases hch), .inr⟩
      have turned : ∀ {id : Nat} {cs : List D}, c = some (id, cs) → ∀ id', OL O0 ch (Lst (L.setIfInBounds i true)) m id' = if id' = id then some cs else OL O0 ch (Lst L) m id' := by
        rintro id cs rfl id'
        split
        · rename_i e; subst e
          rw [OL_cut (i := i + 1) (by omega) (fun j c' h1 h2 hc hl => ?_)]
          · exact OL_in hch ((lst_set hisz).2 (.inl rfl))
          · rcases (lst_set hisz).1 hl with e | hl
            · omega
            · exact FX.later hB hf hI.closed hch him hnl j c' (by omega) h2 hc hl
        · rename_i e
          refine OL_congr fun j c hj hc => ?_
          rw [lst_set hisz]
          exact ⟨fun h => h.resolve_left (fun e2 => by subst e2; rw [hc] at hch; cases hch; exact e rfl), .inr⟩
      -- the state behind it
      have step : ∀ {a' : Act} {w' : World} {φ' : Loc} {O' : List (Nat × List D)} {v : Value}, a' = t.put o.dst v → (∀ id, lk id O' = OL O0 ch (Lst (L.setIfInBounds i true)) m id) → SatC w0 φ' ⟨n, a, [], O'⟩ t.tmps w' → (∀ s d, eL l env0 res m L s d → ∃ v, t.tmps[s]? = some v ∧ Rep φ' w' (FSx φ' O' w') v d) → (∀ s, o.dst = some s → Rep φ' w' (FSx φ' O' w') v d) →
          wpAnyIn (fw r) N P .any l.toArray Q fuel (L.setIfInBounds i true) a' w' := by
        rintro a' w' φ' O' v rfl hO' hs' he' hr
        have hsz : t.tmps.size = n := hs'.size
        refine ih _ _ w' hI' hu' (.inl ⟨fun j hj hl => ?_, by rw [put_defers]; exact hAd, φ', O', hO', ?_, fun s e hte => ?_⟩)
        · rw [lst_set hisz] at hl
          rcases hl with h | h
          · omega
          · exact hA1 j hj h
        · cases hd : o.dst with
          | none => exact hs'
          | some s => exact ⟨hs'.below, by simp [Act.put, hsz], hs'.own, hs'.inj, fun s d hd => by simp [lk] at hd, hs'.base, hs'.pin⟩
        · have old : o.dst ≠ some s → eL l env0 res m L s e → ∃ v', (t.put o.dst v).tmps[s]? = some v' ∧ Rep φ' w' (FSx φ' O' w') v' e := by
            intro hne hx
            obtain ⟨u, hu1, hu2⟩ := he' s e hx
            refine ⟨u, ?_, hu2⟩
            cases hd : o.dst with
            | none => exact hu1
            | some s' =>
              have : s' ≠ s := fun h => hne (by rw [hd, h])
              simp only [Act.put]
              rw [Array.getElem?_setIfInBounds_ne this]; exact hu1
          have new : o.dst = some s → e = d → ∃ v', (t.put o.dst v).tmps[s]? = some v' ∧ Rep φ' w' (FSx φ' O' w') v' e := by
            intro hd hed
            subst hed
            rw [hd]
            exact ⟨v, by simp only [Act.put]; rw [Array.getElem?_setIfInBounds_self_of_lt (by rw [hsz]; exact hdst s hd)], hr s hd⟩
          rcases hte with ⟨j, p, q1, q2, q3, q4, q5⟩ | ⟨q1, q2⟩
          · rw [lst_set hisz] at q2
            by_cases hji : j = i
            · subst hji
              rw [ho'] at q3; cases q3
              exact new q4 (Option.some.inj (q5.symm.trans hres))
            · have q2 : Lst L j := q2.resolve_left hji
              exact old (fun hd => hji (nodup_dst hB.nodup q1 him q3 ho' q4 hd)) (.inl ⟨j, p, q1, q2, q3, q4, q5⟩)
          · exact old (q1 i o him (by rw [lst_set hisz]; exact .inl rfl) ho') (.inr ⟨fun j p hj hl hp => q1 j p hj (by rw [lst_set hisz]; exact .inr hl) hp, q2⟩)
      have lt : ∀ {s e}, eL l env0 res m L s e → s < n := by
        intro s e hx
        obtain ⟨u, hu1, _⟩ := he s e hx
        have := (Array.getElem?_eq_some_iff.1 hu1).1
        have h2 : t.tmps.size = n := hs.size
        omega
      have lkE : ∀ {s e}, eL l env0 res m L s e → lk s (EnvOf n (eL l env0 res m L)) = some e := by
        intro s e hx
        rw [lk_EnvOf, if_pos (lt hx)]
        have hex : ∃ d, eL l env0 res m L s d := ⟨e, hx⟩
        unfold fE
        rw [dif_pos hex]
        rw [eL_fun hB (Classical.choose_spec hex) hx]
      -- an operation that always is carried out
      have always : o.guard = none → Region.wanted o (yielded l.toArray t.tmps) = true := by
        intro hg; unfold Region.wanted; rw [hg]
      have grd : ∀ {b : Bool}, GO l env0 res i o b → Region.wanted o (yielded l.toArray t.tmps) = b := by
        intro b hgo
        unfold GO at hgo
        unfold Region.wanted
        split at hgo
        · rename_i hg; rw [hg]; exact hgo.symm
        · rename_i g want hg
          obtain ⟨og, s, hog, hogd, hc⟩ := hgo
          have hslot : s ∈ rdsO o.op ++ (grdSlot l o).toList := by
            simp [grdSlot, hg, hog, hogd]
          have hy : (l[g]?).bind (·.dst) = some s := by rw [hog]; exact hogd
          rw [hg]
          simp only
          rcases hc with ⟨c, hsrc, rfl⟩ | ⟨hsrc, rfl⟩
          · obtain ⟨v, hv, hrep⟩ := rd hslot hsrc
            rw [yielded_at hy hv, hrep.bool_inv]
            cases c <;> cases want <;> rfl
          · obtain ⟨v, hv, hrep⟩ := rd hslot hsrc
            obtain ⟨vs, rfl, _⟩ := hrep.tup_inv
            rw [yielded_at hy hv]; rfl
      -- what is known names no block that is new
      have hdmG : ∀ {id : Nat} {cs : List D}, c = some (id, cs) → a ≤ id → id < pinB → (∀ j c', j < i → ch[j]? ≠ some (some (id, c'))) → ∀ s e, eL l env0 res m L s e → mn id e = false := by
        rintro id cs rfl hai hpi hno s e (⟨j, p, q1, q2, q3, q4, q5⟩ | ⟨_, q2⟩)
        · obtain ⟨oj, dj, cj, r1, r2, r3, _, r4⟩ := hf j q1
          rw [q3] at r1; cases r1
          rw [q5] at r2; cases r2
          have other : ∀ {id2 : Nat} {cs2 : List D}, cj = some (id2, cs2) → (∀ k c', k < j → ch[k]? ≠ some (some (id2, c'))) → id2 ≠ id := by
            rintro id2 cs2 rfl hno2 e
            subst e
            rcases Nat.lt_trichotomy j i with h | h | h
            · exact hno j _ h r3
            · subst h; exact hnl q2
            · exact hno2 i _ h hch
          rcases r4 with ⟨_, hn, _⟩ | hal2 | hnw2 | hst2
          · exact hn id hai hpi
          · obtain ⟨_, _, id2, _, hcj, _, _, _, rfl, _, _, _, _, hno2⟩ := hal2
            have hne : id2 ≠ id := other hcj hno2
            simpa [mn] using hne
          · obtain ⟨_, id2, _, _, hcj, _, _, _, _, _, _, hdm2, _, _, hno2⟩ := hnw2
            have hne : id2 ≠ id := other hcj hno2
            exact hdm2 id hai hpi (fun e => hne e.symm)
          · obtain ⟨_, _, _, _, _, _, _, _, _, _, _, _, hdn, _⟩ := hst2
            rw [hdn] at q4; cases q4
        · exact he0 s e q2 id hai hpi
      rcases hfact with ⟨hcn, _, _, ⟨hgo, r, hr, hop⟩ | ⟨hgo, rfl⟩⟩ | hal | hnw | hst
      · rw [grd hgo, if_pos rfl]
        have hEn : ∀ s e, lk s (r ++ EnvOf n (eL l env0 res m L)) = some e → eL l env0 res m L s e := by
          intro s e hx
          rcases lk_app hx with hx | ⟨_, hx⟩
          · exact (hr s e hx).2.eL hB him ho' (by simp [(hr s e hx).1]) hp'
          · rw [lk_EnvOf] at hx
            split at hx
            · exact fE_ok hx
            · cases hx
        have hOO : ∀ id, lk id (own ++ O) = lk id O := by
          intro id
          cases e : lk id (own ++ O) with
          | none =>
            cases e2 : lk id O with
            | none => rfl
            | some c =>
              have : ∀ {A : List (Nat × List D)}, lk id (A ++ O) ≠ none := by
                intro A
                induction A with
                | nil => rw [List.nil_append, e2]; simp
                | cons x A ih =>
                  obtain ⟨s, y⟩ := x
                  simp only [List.cons_append, lk]
                  split
                  · simp
                  · exact ih
              exact absurd e this
          | some c =>
            have split : ∀ {A : List (Nat × List D)}, lk id (A ++ O) = some c → lk id A = some c ∨ lk id O = some c := by
              intro A hA
              induction A with
              | nil => exact .inr hA
              | cons x A ih =>
                obtain ⟨s, y⟩ := x
                simp only [List.cons_append, lk] at hA ⊢
                split at hA
                · rename_i h1; rw [if_pos h1]; exact .inl hA
                · rename_i h1; rw [if_neg h1]; exact ih hA
            rcases split e with h1 | h1
            · obtain ⟨g1, g2⟩ := hown id c h1
              rw [hO, OL_cut (i := 0) (by omega) (fun j c' _ hj hc => absurd hc (g2 j c' hj))]
              exact g1.symm
            · exact h1.symm
        have hs2 : SatC w0 φ ⟨n, a, r ++ EnvOf n (eL l env0 res m L), own ++ O⟩ t.tmps w :=
          SatC.congr_own (own := O) ⟨hs.below, hs.size, hs.own, hs.inj, fun s d hd => he s d (hEn s d hd), hs.base, hs.pin⟩ hOO
        refine opW_ok hG hs2 o (hop _ _) ?_
        rintro v w' ⟨φ', x, S', ⟨rfl, rfl⟩, hs3, hr3, _⟩
        have hs4 : SatC w0 φ' ⟨n, a, r ++ EnvOf n (eL l env0 res m L), O⟩ t.tmps w' := SatC.congr_own (own := own ++ O) hs3 fun id => (hOO id).symm
        have hFF : ∀ b, FSx φ' (own ++ O) w' b → FSx φ' O w' b := fun b hb => ⟨hb.1, fun id c hc => hb.2 id c (by rw [hOO]; exact hc), hb.3⟩
        refine step rfl (fun id => by rw [same hcn]; exact hO id) ⟨hs4.below, hs4.size, hs4.own, hs4.inj, fun s d hd => by simp [lk] at hd, hs4.base, hs4.pin⟩ (fun s e hx => hs4.env s e ?_) (fun _ _ => hr3.mono (fun _ _ => rfl) hFF)
        exact lk_app_mk (lkE hx) fun e' he' => eL_fun hB ((hr s e' he').2.eL hB him ho' (by simp [(hr s e' he').1]) hp') hx
      · rw [grd hgo, if_neg (by simp)]
        refine ⟨fun _ _ => trivial, ?_⟩
        exact step rfl (fun id => by rw [same hcn]; exact hO id) hs he (fun _ _ => .ro (.tup rfl fun i v d hv => by simp [undef] at hv))
      · -- a variable is laid
        obtain ⟨ty, s, id, cs, rfl, hop, hg, hds, rfl, hz, hnm, hai, hpi, hno⟩ := hal
        rw [always hg, if_pos rfl]
        obtain ⟨ii, zv, h1, h2, h3, h4⟩ := zeroW_ok hz
        have hdm := hdmG rfl hai hpi hno
        have hNM : NM id O := ⟨hpi, fun i2 x hx _ d hd => by
          rw [hO] at hx
          exact OL_nm h0 chnm hx d hd id hai hpi⟩
        have hs2 : SatC w0 φ ⟨n, id, EnvOf n (eL l env0 res m L), O⟩ t.tmps w := ⟨hs.below, hs.size, hs.own, hs.inj, fun s d hd => he s d (by
          rw [lk_EnvOf] at hd
          split at hd
          · exact fE_ok hd
          · cases hd), hs.base, hs.pin⟩
        have hnew := hs2.new zv.cells ty (0, 0) (zv.cells.toList.map dS) (fun o _ => by simp) (by simp) (fun j x d hx hd => by
          simp only [List.getElem?_map, Array.getElem?_toList, hx, Option.map_some, Option.some.injEq] at hd
          subst hd
          have := Array.all_eq_true.1 h3
          obtain ⟨hj, rfl⟩ := Array.getElem?_eq_some_iff.1 hx
          exact ⟨.ro (dS_ok w _ _), this j hj, mn_of_repR (dS_ok w (FSx φ O w) _) _⟩) hNM
        have hrun : (execOp t.eval o).run P w = .ok (.value (.pointer (some ⟨w.heap.size, 0, none⟩))) (w.alloc (.cells zv.cells ty)) := by
          have := run_alloc (P := P) (w := w) h1 h2
          simp only [execOp, hop, Sem.run_bind, this]; rfl
        refine wp_val (by rw [hop]; simp) hrun (step rfl (fun id' => ?_) ⟨hnew.below, hnew.size, hnew.own, hnew.inj, fun s d hd => by simp [lk] at hd, hnew.base, hnew.pin⟩ (fun s e hx => hnew.env s e (lk_purge_mk (lkE hx) (hdm s e hx))) (fun _ _ => .ptr (by rw [upd_same])))
        rw [turned rfl id']
        simp only [lk]
        split
        · rw [h4]
        · exact hO id'
      · -- a block is made by a callee
        obtain ⟨s, id, cs, r, hce, hcv, hg, hds, hnm, hai, hpi, hdd, hr, hop, hno⟩ := hnw
        rw [always hg, if_pos rfl]
        have hdm := hdmG hce hai hpi hno
        let X : List (Nat × List D) := O.map fun p => (p.1, (lk p.1 O).getD [])
        have hX : ∀ j, lk j X = lk j O := by
          intro j
          have : ∀ {g : Nat → List D} {A : List (Nat × List D)}, lk j (A.map fun p => (p.1, g p.1)) = (lk j A).map fun _ => g j := by
            intro g A
            induction A with
            | nil => rfl
            | cons x A ih =>
              obtain ⟨t, y⟩ := x
              simp only [List.map_cons, lk]
              split
              · rename_i e; subst e; rfl
              · exact ih
          rw [this (g := fun i => (lk i O).getD [])]
          cases lk j O <;> rfl
        have hOnm : ∀ j c', lk j O = some c' → nmC id c' := by
          intro j c' hj d hd
          rw [hO] at hj
          exact OL_nm h0 chnm hj d hd id hai hpi
        have hXW : ∀ A, nmW id X A = A := by
          intro A
          have : ∀ {B : List (Nat × List D)}, (∀ p ∈ B, nmC id p.2) → nmW id B A = A := by
            intro B
            induction B with
            | nil => intro _; exact propext ⟨fun h => h.2, fun h => ⟨hpi, h⟩⟩
            | cons p B ih =>
              obtain ⟨t, y⟩ := p
              intro hB
              have h1 := hB (t, y) (by simp)
              have h2 := ih fun p hp => hB p (by simp [hp])
              show (nmC id y ∧ nmW id B A) = A
              rw [h2]
              exact propext ⟨fun h => h.2, fun h => ⟨h1, h⟩⟩
          refine this fun p hp => ?_
          obtain ⟨q, hq, rfl⟩ := List.mem_map.1 hp
          show nmC id ((lk q.1 O).getD [])
          cases e : lk q.1 O with
          | none => intro d hd; simp at hd
          | some c' => exact hOnm q.1 c' e
        have hOO : ∀ j, lk j (own ++ X) = lk j O := by
          intro j
          have app : lk j (own ++ X) = match lk j own with | some c => some c | none => lk j X := by
            generalize own = A
            induction A with
            | nil => rfl
            | cons x A ih =>
              obtain ⟨s, y⟩ := x
              simp only [List.cons_append, lk]
              split
              · rfl
              · exact ih
          rw [app]
          cases e : lk j own with
          | none => exact hX j
          | some c =>
            obtain ⟨g1, g2⟩ := hown j c e
            simp only
            rw [hO, OL_cut (i := 0) (by omega) (fun k c' _ hk hc => absurd hc (g2 k c' hk))]
            exact g1.symm
        have hEn : ∀ s e, lk s (r ++ EnvOf n (eL l env0 res m L)) = some e → eL l env0 res m L s e := by
          intro s e hx
          rcases lk_app hx with hx | ⟨_, hx⟩
          · exact (hr s e hx).2.eL hB him ho' (by simp [(hr s e hx).1]) hp'
          · rw [lk_EnvOf] at hx
            split at hx
            · exact fE_ok hx
            · cases hx
        have hs2 : SatC w0 φ ⟨n, id, r ++ EnvOf n (eL l env0 res m L), own ++ X⟩ t.tmps w :=
          SatC.congr_own (own := O) ⟨hs.below, hs.size, hs.own, hs.inj, fun s d hd => he s d (hEn s d hd), hs.base, hs.pin⟩ hOO
        refine opW_ok hG hs2 o (hop _ _ hXW) ?_
        rintro v w' ⟨φ', x, S', ⟨rfl, rfl⟩, hs3, hr3, _⟩
        have hO2 : ∀ j, lk j ((id, cs) :: O) = lk j ((id, cs) :: (own ++ X)) := by
          intro j; simp only [lk]; split
          · rfl
          · exact (hOO j).symm
        have hs4 : SatC w0 φ' ⟨n, id + 1, purge id (r ++ EnvOf n (eL l env0 res m L)), (id, cs) :: O⟩ t.tmps w' := SatC.congr_own (own := (id, cs) :: (own ++ X)) hs3 hO2
        have hFF : ∀ b, FSx φ' ((id, cs) :: (own ++ X)) w' b → FSx φ' ((id, cs) :: O) w' b := fun b hb => ⟨hb.1, fun j c hc => hb.2 j c (by rw [← hO2]; exact hc), hb.3⟩
        refine step rfl (O' := (id, cs) :: O) (fun id' => ?_) ⟨hs4.below, hs4.size, hs4.own, hs4.inj, fun s d hd => by simp [lk] at hd, hs4.base, hs4.pin⟩ (fun s e hx => hs4.env s e (lk_purge_mk ?_ (hdm s e hx))) (fun _ _ => hr3.mono (fun _ _ => rfl) hFF)
        · rw [turned hce id']
          simp only [lk]
          split
          · rfl
          · exact hO id'
        · exact lk_app_mk (lkE hx) fun e' he' => eL_fun hB ((hr s e' he').2.eL hB him ho' (by simp [(hr s e' he').1]) hp') hx
      · -- a variable is stored to
        obtain ⟨ty, s, x, id, off, r, dx, ds, c0, rfl, hop, hg, hdn, hsrc, hr, hev, hsz, hcl, hfit, hspl, hc0, hpre⟩ := hst
        rw [always hg, if_pos rfl]
        have hslot : s ∈ rdsO o.op ++ (grdSlot l o).toList := by simp [hop, rdsO, Op.operands, rdO]
        have hid : lk id O = some c0 := by
          rw [hO, OL_cut (i := i) (by omega) (fun j c' h1 h2 hc => FX.later hB hf hI.closed hch him hnl j c' h1 h2 hc), ← hc0]
          refine OL_congr fun j c' hj hc => ⟨fun _ => trivial, fun _ => ?_⟩
          obtain ⟨p, hp1, hp2⟩ := hpre j c' hj hc
          have := hB.reads _ (mem_zip (by rw [List.getElem?_take_of_lt him]; exact ho')) s hslot _ (mem_zip (show (l.take m)[j]? = some p by rw [List.getElem?_take_of_lt (by omega)]; exact hp1)) hp2
          obtain ⟨e, he, hb⟩ := List.any_eq_true.1 this.2
          simp only [Bool.and_eq_true, beq_iff_eq] at hb
          have hx := hp' e he hb.1
          rw [hb.2] at hx
          exact hx
        have hs3 : SatC w0 φ ⟨n, a, [(s, .ptr id off)], O⟩ t.tmps w := ⟨hs.below, hs.size, hs.own, hs.inj, (fun u d hd => by
          simp only [lk] at hd
          split at hd
          · rename_i e; cases hd; subst e; exact rd hslot hsrc
          · cases hd), hs.base, hs.pin⟩
        obtain ⟨dp, rfl, hprep⟩ := evW_ok (x := .tmp s) (k := fun d => d = .ptr id off) hG hs3 (by show lkW s _ _; simp [lkW_cons])
        have hs2 : SatC w0 φ ⟨n, a, r ++ EnvOf n (eL l env0 res m L), O⟩ t.tmps w := ⟨hs.below, hs.size, hs.own, hs.inj, fun u d hd => he u d (by
          rcases lk_app hd with hx | ⟨_, hx⟩
          · exact (hr u d hx).2.eL hB him ho' (by simp [(hr u d hx).1]) hp'
          · rw [lk_EnvOf] at hx
            split at hx
            · exact fE_ok hx
            · cases hx), hs.base, hs.pin⟩
        obtain ⟨dv, rfl, hxrep⟩ := evW_ok hG hs2 (hev _ _)
        obtain ⟨ds', rfl, hl, hrr⟩ := clW_ok hxrep hcl
        generalize hpv : t.eval (.tmp s) = pv at hprep
        obtain ⟨ii, hi1, hi2⟩ := szW_ok hsz
        cases hprep with
        | ro hp => cases hp
        | @ptr _ _ b hb =>
          obtain ⟨w', hrun, hs', hrep⟩ := hs.store (P := P) (vs := (t.eval x).cells.toList) hid hb (by simpa using hl) hfit (fun i v d hv hd => hrr i v d (by simpa using hv) hd)
          have hrun2 : (execOp t.eval o).run P w = .ok .skip w' := by
            have : (Instr.storeAt ty (t.eval (.tmp s)) (t.eval x)).run P w = .ok () w' := by
              rw [hpv]
              simp [Instr.storeAt, Instr.sureAddr, storeVar, sizeOf, typeInfo, hi1, hl, hi2, hrun]
            simp only [execOp, hop, Sem.run_bind, this]; rfl
          refine wp_skp (by rw [hop]; simp) hrun2 (step rfl (fun id' => ?_) hs' (fun s e hx => ?_) (fun s' h => by rw [hdn] at h; cases h))
          · rw [turned rfl id']
            split
            · rename_i e; subst e; exact lk_setO_same hid
            · rename_i e; rw [lk_setO_other e]; exact hO id'
          · obtain ⟨v, hv1, hv2⟩ := he s e hx
            exact ⟨v, hv1, hrep v e hv2⟩
end

/-- What is turned in a region, apart from what is not. -/
def splitO (hid : List Nat) : List (Nat × List D) → (List (Nat × List D) → List (Nat × List D) → Prop) → Prop
  | [], k => k [] []
  | (i, c) :: r, k => (i ∈ hid → splitO hid r fun dy ow => k ((i, c) :: dy) ow) ∧ (¬ i ∈ hid → splitO hid r fun dy ow => k dy ((i, c) :: ow))
theorem splitO_ok {hid : List Nat} : ∀ {O : List (Nat × List D)} {k : List (Nat × List D) → List (Nat × List D) → Prop}, splitO hid O k → ∃ dy ow, k dy ow ∧ ∀ i, (i ∈ hid → lk i dy = lk i O ∧ lk i ow = none) ∧ (¬ i ∈ hid → lk i dy = none ∧ lk i ow = lk i O)
  | [], k, h => ⟨[], [], h, fun i => ⟨fun _ => ⟨rfl, rfl⟩, fun _ => ⟨rfl, rfl⟩⟩⟩
  | (j, c) :: r, k, h => by
    by_cases e : j ∈ hid
    · obtain ⟨dy, ow, hk, hs⟩ := splitO_ok (h.1 e)
      refine ⟨_, _, hk, fun i => ⟨fun hi => ?_, fun hi => ?_⟩⟩
      · simp only [lk]; split
        · exact ⟨rfl, ((hs i).1 hi).2⟩
        · exact (hs i).1 hi
      · have hne : i ≠ j := fun e2 => hi (e2 ▸ e)
        simp only [lk]; rw [if_neg hne, if_neg hne]
        exact (hs i).2 hi
    · obtain ⟨dy, ow, hk, hs⟩ := splitO_ok (h.2 e)
      refine ⟨_, _, hk, fun i => ⟨fun hi => ?_, fun hi => ?_⟩⟩
      · have hne : i ≠ j := fun e2 => e (e2 ▸ hi)
        simp only [lk]; rw [if_neg hne, if_neg hne]
        exact (hs i).1 hi
      · simp only [lk]; split
        · exact ⟨((hs i).2 hi).1, rfl⟩
        · exact (hs i).2 hi
/-- A region that draws its order, and in which variables are laid and stored to. -/
def rgnX (G : Glob) (P : Program) (l : List Oper) (m : Nat) (hid : List Nat) (S : St) (k : St → Prop) : Prop :=
  nmRE S.nx S.env ∧ nmRO S.nx S.own ∧ splitO hid S.own fun dy ow => drxW G P l S.n S.nx ow (l.take m) S.nx dy [] [] S.env fun nxt dy' E => opsW G P l (l.drop m) ⟨S.n, nxt, E, dy' ++ ow⟩ k
theorem drx_ok {r : Option Nat} {N : Nat} {G : Glob} {P : Program} {w0 : Bas} {w : World} {φ : Loc} {S : St} {a : Act} {k : St → Prop} {Q : Exit → Act → World → Prop} {l : List Oper} {id m : Nat} {hid : List Nat} (hG : GOk G w0) (hm : P.follows .mixedOrders = true) (hml : m ≤ l.length) (hB : drwB l m = true)
    (hs : SatC w0 φ S a.tmps w) (h : rgnX G P l m hid S k) (hn : ∀ S' a' w' φ', k S' → SatC w0 φ' S' a'.tmps w' → S'.n = S.n → a'.defers = a.defers → Q .normal a' w') : (Code.region id l.toArray true).wpIn (fw r) N P Q a w := by
  obtain ⟨hE, hO, h⟩ := h
  obtain ⟨dy, ow, h, hsp⟩ := splitO_ok h
  have hB := drwB_ok hB
  have dyO : ∀ i c, lk i dy = some c → lk i S.own = some c ∧ lk i ow = none := by
    intro i c hc
    by_cases e : i ∈ hid
    · exact ⟨((hsp i).1 e).1 ▸ hc, ((hsp i).1 e).2⟩
    · rw [((hsp i).2 e).1] at hc; cases hc
  have owO : ∀ i c, lk i ow = some c → lk i S.own = some c := by
    intro i c hc
    by_cases e : i ∈ hid
    · rw [((hsp i).1 e).2] at hc; cases hc
    · exact ((hsp i).2 e).2 ▸ hc
  have Oall : ∀ i, lk i dy = none → lk i ow = lk i S.own := by
    intro i hd
    by_cases e : i ∈ hid
    · rw [((hsp i).1 e).2, ← ((hsp i).1 e).1, hd]
    · exact ((hsp i).2 e).2
  obtain ⟨res, ch, nxt', dy', al', st', E2, _, _, r3, r4, r5, r6, r7, r8⟩ := drx_ext (l := l) (env0 := S.env) (O0 := S.own) (K := fun i => ∃ c, lk i dy = some c) hml (l.take m) 0 S.nx dy [] [] S.env [] [] rfl rfl (Nat.zero_le _) (by simp)
    (fun t d hd => .inr ⟨fun j o hj => by omega, hd⟩)
    ⟨Nat.le_refl _, fun i c hc => ⟨(dyO i c hc).1, (nmRO_ok hO i c (dyO i c hc).1).1, (nmRO_ok hO i c (dyO i c hc).1).2⟩, fun i c hc => .inl ⟨c, hc⟩, fun i hk => hk, fun j i c hc => by simp at hc⟩ h
  have notin : ∀ i c, lk i ow = some c → lk i dy' = none := by
    intro i c hc
    cases e : lk i dy' with
    | none => rfl
    | some c' =>
      rcases r7.key i c' e with ⟨c2, h2⟩ | h2
      · rw [(dyO i c2 h2).2] at hc; cases hc
      · have := (nmRO_ok hO i c (owO i c hc)).1; omega
  refine wpIn_region_any hm ?_
  have hsz : l.toArray.size = l.length := by simp
  rw [hsz]
  refine drx_run (w0 := w0) (n := S.n) (a := S.nx) (own := ow) (O0 := S.own) (df := a.defers) (res := res) (ch := ch) (m := m) (env0 := S.env) hG hB hml r4 (fun j hj => r5 j (Nat.zero_le _) hj) (fun i c hc => (nmRO_ok hO i c hc).2) (nmRE_ok hE)
    (fun i c hc => ⟨owO i c hc, fun j c' hj hch => by
      obtain ⟨⟨c2, h2⟩, _⟩ := r7.tch j i c' hch
      rw [notin i c hc] at h2; cases h2⟩) E2 r6 (fun a' w' φ' O hd hOL hs' => ?_) l.length _ a _ ⟨by simp, fun j o hj hl => ?_⟩ ?_ (.inl ⟨fun j hj hl => ?_, rfl, φ, S.own, ?_, ?_⟩)
  · have hs2 : SatC w0 φ' ⟨S.n, nxt', E2, dy' ++ ow⟩ a'.tmps w' := by
      refine SatC.congr_own (own := O) ⟨hs'.below, hs'.size, hs'.own, hs'.inj, hs'.env, hs'.base, hs'.pin⟩ fun j => ?_
      have app : lk j (dy' ++ ow) = match lk j dy' with | some c => some c | none => lk j ow := by
        generalize dy' = A
        induction A with
        | nil => rfl
        | cons x A ih =>
          obtain ⟨s, y⟩ := x
          simp only [List.cons_append, lk]
          split
          · rfl
          · exact ih
      rw [app, hOL]
      cases e : lk j dy' with
      | some c => exact (r7.dyc j c e).1.symm
      | none =>
        simp only
        rw [OL_cut (i := 0) (Nat.zero_le _) (fun i c _ _ hc => by obtain ⟨⟨c2, h2⟩, _⟩ := r7.tch i j c hc; rw [e] at h2; cases h2)]
        refine Oall j ?_
        cases e2 : lk j dy with
        | none => rfl
        | some c => obtain ⟨c3, h3⟩ := r7.keep j ⟨c, e2⟩; rw [e] at h3; cases h3
    exact opsW_ok hG hs2 r8 fun S2 a2 w2 φ2 q1 q2 q3 q4 => hn S2 a2 w2 φ2 q1 q2 q3 (q4.trans hd)
  · exact absurd hl lst_none
  · unfold unl; simp
  · exact absurd hl lst_none
  · intro i
    rw [OL_cut (i := 0) (Nat.zero_le _) (fun j c _ _ _ => lst_none)]; rfl
  · have hs2 := hs.drew
    refine ⟨⟨hs2.below, hs2.size, hs2.own, hs2.inj, fun s d hd => by simp [lk] at hd, hs2.base, hs2.pin⟩, fun t d ht => ?_⟩
    refine hs2.env t d ?_
    rcases ht with ⟨j, o, q1, q2, q3, q4, q5⟩ | ⟨_, q2⟩
    · exact absurd q2 lst_none
    · exact q2
#print axioms drx_ok
end Go.Abs
