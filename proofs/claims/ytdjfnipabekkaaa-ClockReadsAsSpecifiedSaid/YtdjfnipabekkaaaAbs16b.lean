/-
  AN ABSTRACT WALK, between the sixteenth and the seventeenth text: regions that draw their order: operations that turn nothing of the call's own may come in any order that the edges allow; what stands behind them comes last.
-/
import Derived.Test.YtdjfnipabekkaaaAbs16
import Derived.Orders
namespace Go.Abs

/-- Operations that turn no own block (but may make memory that is only read). -/
def stb : Op → Bool
  | .move _ | .assign _ | .pick .. | .nilCheck _ | .binOp .. | .unOp .. | .convert .. | .extract .. | .load .. | .indexAddr .. | .fieldAddr .. | .field .. | .index .. | .build .. | .buildSlice .. | .slice .. | .sliceToArrayPointer .. | .makeFunc .. => true
  | .call { callee := .value _, .. } => true
  | .call { callee := .builtin .len, .. } | .call { callee := .builtin .max, .. } | .call { callee := .builtin .min, .. } => true
  | _ => false
def rdO (x : Operand) : Option Nat := match x with | .tmp t => some t | _ => none
def rdsO (o : Op) : List Nat := o.operands.toList.filterMap rdO
/-- What these slots hold, and no more. -/
def rsW : List Nat → List (Nat × D) → (List (Nat × D) → Prop) → Prop
  | [], _, k => k []
  | t :: r, E, k => lkW t E fun d => rsW r E fun e => k ((t, d) :: e)
def TagD (_ : D → Prop) : Type := Unit
def tgd (K : D → Prop) : TagD K := ()
/-- Some data of which A holds; behind it K. -/
structure exD (A K : D → Prop) (u : TagD K) : Prop where
  get : ∃ d, A d ∧ K d
def drwW (G : Glob) (P : Program) (ops : List Oper) (n nx : Nat) (own : List (Nat × List D)) : List Oper → List (Nat × D) → (St → Prop) → Prop
  | [], E, k => k ⟨n, nx, E, own⟩
  | o :: rest, E, k => match stb o.op with
    | false => opsW G P ops (o :: rest) ⟨n, nx, E, own⟩ k
    | true => grdW ops o.guard ⟨n, nx, E, own⟩
        (fun S => rsW (rdsO o.op) S.env fun r => exD (fun d => ∀ E' : List (Nat × D), opW G P o.op ⟨n, nx, r ++ E', own⟩ fun x T => x = d ∧ T = ⟨n, nx, r ++ E', own⟩) (fun d => putW o.dst d S fun S => drwW G P ops n nx own rest S.env k) (tgd _))
        (fun S => putW o.dst (.tup []) S fun S => drwW G P ops n nx own rest S.env k)

/-! ### What is asked of the edges -/
def dir (o : Oper) (j : Nat) : Bool := o.after.toList.any fun e => Region.binds .any e && e.on == j
def mkM (o : Oper) (acc : List Nat) : Nat := o.after.toList.foldl (fun m e => if Region.binds .any e = true then m ||| 2 ^ e.on ||| acc.getD e.on 0 else m) 0
def masks : List Oper → List Nat → List Nat
  | [], acc => acc
  | o :: r, acc => masks r (acc ++ [mkM o acc])
def preN (l : List Oper) : Nat := (l.takeWhile fun o => stb o.op).length
def grdSlot (l : List Oper) (o : Oper) : Option Nat := match o.guard with | none => none | some (j, _) => (l[j]?).bind (·.dst)
structure DrwB (l : List Oper) (m : Nat) : Prop where
  nodup : ((l.take m).filterMap (·.dst)).Nodup
  reads : ∀ x ∈ (l.take m).zipIdx, ∀ t ∈ rdsO x.1.op ++ (grdSlot l x.1).toList, ∀ y ∈ (l.take m).zipIdx, y.1.dst = some t → y.2 < x.2 ∧ dir x.1 y.2 = true
  tail : ∀ x ∈ (masks l []).zipIdx, m ≤ x.2 → x.1 &&& (2 ^ x.2 - 1) = 2 ^ x.2 - 1
  back : ∀ x ∈ l.zipIdx, ∀ e ∈ x.1.after.toList, Region.binds .any e = true → e.on < x.2
  grd : ∀ x ∈ l.take m, ∀ j b, x.guard = some (j, b) → j < m
def drwB (l : List Oper) (m : Nat) : Bool :=
  decide ((l.take m).filterMap (·.dst)).Nodup &&
  ((l.take m).zipIdx.all fun x => (rdsO x.1.op ++ (grdSlot l x.1).toList).all fun t => (l.take m).zipIdx.all fun y => y.1.dst != some t || (decide (y.2 < x.2) && dir x.1 y.2)) &&
  ((masks l []).zipIdx.all fun x => decide (x.2 < m) || x.1 &&& (2 ^ x.2 - 1) == 2 ^ x.2 - 1) &&
  (l.zipIdx.all fun x => x.1.after.toList.all fun e => !Region.binds .any e || decide (e.on < x.2)) &&
  ((l.take m).all fun x => match x.guard with | none => true | some (j, _) => decide (j < m))
theorem drwB_ok {l : List Oper} {m : Nat} (h : drwB l m = true) : DrwB l m := by
  simp only [drwB, Bool.and_eq_true, List.all_eq_true, Bool.or_eq_true, decide_eq_true_eq, bne_iff_ne, beq_iff_eq, Bool.not_eq_true'] at h
  obtain ⟨⟨⟨⟨h1, h2⟩, h3⟩, h4⟩, h5⟩ := h
  refine ⟨h1, fun x hx t ht y hy hd => (h2 x hx t ht y hy).resolve_left fun h => h hd, fun x hx hm => (h3 x hx).resolve_left (fun h => by omega), fun x hx e he hb => (h4 x hx e he).resolve_left (fun h => by rw [hb] at h; cases h), fun x hx j b hg => ?_⟩
  have := h5 x hx
  rw [hg] at this
  simpa using this
theorem mem_zip {α : Type} {l : List α} {i : Nat} {o : α} (h : l[i]? = some o) : (o, i) ∈ l.zipIdx := by
  rw [List.mem_zipIdx_iff_getElem?]; simpa using h

theorem masks_spec : ∀ (l : List Oper) (acc : List Nat), (masks l acc).length = acc.length + l.length ∧ (∀ j, j < acc.length → (masks l acc)[j]? = acc[j]?) ∧
    ∀ (i : Nat) (o : Oper), l[i]? = some o → (masks l acc)[acc.length + i]? = some (mkM o ((masks l acc).take (acc.length + i)))
  | [], acc => ⟨by simp [masks], fun j hj => rfl, fun i o h => by simp at h⟩
  | o :: r, acc => by
    obtain ⟨h1, h2, h3⟩ := masks_spec r (acc ++ [mkM o acc])
    rw [List.length_append, List.length_singleton] at h1 h2 h3
    have htake : (masks r (acc ++ [mkM o acc])).take acc.length = acc := by
      apply List.ext_getElem?
      intro j
      by_cases hj : j < acc.length
      · rw [List.getElem?_take_of_lt hj, h2 j (by omega), List.getElem?_append_left hj]
      · rw [List.getElem?_eq_none (by rw [List.length_take]; omega), List.getElem?_eq_none (by omega)]
    refine ⟨by rw [masks, h1, List.length_cons]; omega, fun j hj => by rw [masks, h2 j (by omega), List.getElem?_append_left hj], fun i p hp => ?_⟩
    cases i with
    | zero =>
      simp at hp; subst hp
      rw [masks, Nat.add_zero, h2 _ (by omega), htake]
      simp
    | succ i =>
      have := h3 i p (by simpa using hp)
      rw [masks, show acc.length + (i + 1) = acc.length + 1 + i by omega]
      exact this
theorem foldM {acc : List Nat} {x : Nat} : ∀ (es : List Edge) (m : Nat), (es.foldl (fun m e => if Region.binds .any e = true then m ||| 2 ^ e.on ||| acc.getD e.on 0 else m) m).testBit x = true →
    m.testBit x = true ∨ ∃ e ∈ es, Region.binds .any e = true ∧ (x = e.on ∨ (acc.getD e.on 0).testBit x = true)
  | [], m, h => .inl h
  | e :: r, m, h => by
    rw [List.foldl_cons] at h
    rcases foldM r _ h with h | ⟨e', he, hb, hx⟩
    · split at h
      · rename_i hb
        rw [Nat.testBit_or, Nat.testBit_or, Bool.or_eq_true, Bool.or_eq_true] at h
        rcases h with (h | h) | h
        · exact .inl h
        · rw [Nat.testBit_two_pow] at h
          exact .inr ⟨e, by simp, hb, .inl (by simpa using h : e.on = x).symm⟩
        · exact .inr ⟨e, by simp, hb, .inr h⟩
      · exact .inl h
    · exact .inr ⟨e', by simp [he], hb, hx⟩

def Lst (L : Array Bool) (j : Nat) : Prop := L.getD j false = true
def Closed (l : List Oper) (L : Array Bool) : Prop := ∀ (j : Nat) (o : Oper), l[j]? = some o → Lst L j → ∀ e ∈ o.after.toList, Region.binds .any e = true → Lst L e.on
theorem mask_ok {l : List Oper} {m : Nat} (hB : DrwB l m) {L : Array Bool} (hc : Closed l L) : ∀ (i : Nat) (o : Oper), l[i]? = some o → (∀ e ∈ o.after.toList, Region.binds .any e = true → Lst L e.on) → ∀ x, ((masks l []).getD i 0).testBit x = true → Lst L x := by
  intro i
  induction i using Nat.strongRecOn with
  | ind i ih =>
    intro o ho hp x hx
    have h3 := (masks_spec l []).2.2 i o ho
    simp only [List.length_nil, Nat.zero_add] at h3
    rw [List.getD_eq_getElem?_getD, h3, Option.getD_some] at hx
    rcases foldM _ _ hx with h | ⟨e, he, hb, h | h⟩
    · simp at h
    · rw [h]; exact hp e he hb
    · have hlt := hB.back (o, i) (mem_zip ho) e he hb
      simp only at hlt
      have hil : i < l.length := (List.getElem?_eq_some_iff.1 ho).1
      have hol : l[e.on]? = some l[e.on] := List.getElem?_eq_getElem (by omega)
      have e1 : ((masks l []).take i).getD e.on 0 = (masks l []).getD e.on 0 := by
        rw [List.getD_eq_getElem?_getD, List.getD_eq_getElem?_getD, List.getElem?_take_of_lt hlt]
      rw [e1] at h
      exact ih e.on hlt _ hol (hc e.on _ hol (hp e he hb)) x h
theorem tail_all {l : List Oper} {m : Nat} (hB : DrwB l m) {L : Array Bool} (hc : Closed l L) {i : Nat} {o : Oper} (ho : l[i]? = some o) (hm : m ≤ i) (hp : ∀ e ∈ o.after.toList, Region.binds .any e = true → Lst L e.on) : ∀ j, j < i → Lst L j := by
  intro j hj
  have hil : i < l.length := (List.getElem?_eq_some_iff.1 ho).1
  have hl := (masks_spec l []).1
  simp only [List.length_nil, Nat.zero_add] at hl
  have hg : (masks l [])[i]? = some ((masks l []).getD i 0) := by
    rw [List.getD_eq_getElem?_getD, List.getElem?_eq_getElem (by omega)]; rfl
  have h := hB.tail _ (mem_zip hg) hm
  simp only at h
  refine mask_ok hB hc i o ho hp j ?_
  have h2 := congrArg (fun z => z.testBit j) h
  simp only [Nat.testBit_and, Nat.testBit_two_pow_sub_one, hj, decide_true, Bool.and_true] at h2
  exact h2

/-! ### The data of the operations, taken out of the text -/
section
variable (l : List Oper) (env0 : List (Nat × D))
def Srd (res : List D) (i t : Nat) (d : D) : Prop :=
  (∃ j o, j < i ∧ l[j]? = some o ∧ o.dst = some t ∧ res[j]? = some d) ∨ ((∀ j o, j < i → l[j]? = some o → o.dst ≠ some t) ∧ lk t env0 = some d)
def GO (res : List D) (i : Nat) (o : Oper) (b : Bool) : Prop :=
  match o.guard with
  | none => b = true
  | some (g, want) => ∃ og s, l[g]? = some og ∧ og.dst = some s ∧ ((∃ c, Srd l env0 res i s (.bool c) ∧ b = (c == want)) ∨ (Srd l env0 res i s (.tup []) ∧ b = false))
def Fact (G : Glob) (P : Program) (n nx : Nat) (own : List (Nat × List D)) (res : List D) (i : Nat) : Prop :=
  ∃ o d, l[i]? = some o ∧ res[i]? = some d ∧ (∀ s, o.dst = some s → s < n) ∧
    ((GO l env0 res i o true ∧ ∃ r : List (Nat × D), (∀ t d, (t, d) ∈ r → t ∈ rdsO o.op ∧ Srd l env0 res i t d) ∧
        ∀ E' : List (Nat × D), opW G P o.op ⟨n, nx, r ++ E', own⟩ fun x T => x = d ∧ T = ⟨n, nx, r ++ E', own⟩) ∨
      (GO l env0 res i o false ∧ d = .tup []))
def Coh (res : List D) (i : Nat) (E : List (Nat × D)) : Prop := ∀ t d, lk t E = some d → Srd l env0 res i t d
end
variable {l : List Oper} {env0 : List (Nat × D)}
theorem Srd.ext {acc res : List D} {i t : Nat} {d : D} (h : acc <+: res) (hi : i ≤ acc.length) : Srd l env0 acc i t d ↔ Srd l env0 res i t d := by
  obtain ⟨r, rfl⟩ := h
  unfold Srd
  refine or_congr_left ⟨fun ⟨j, o, h1, h2, h3, h4⟩ => ⟨j, o, h1, h2, h3, by rw [List.getElem?_append_left (by omega)]; exact h4⟩, fun ⟨j, o, h1, h2, h3, h4⟩ => ⟨j, o, h1, h2, h3, by rw [List.getElem?_append_left (by omega)] at h4; exact h4⟩⟩
theorem GO.ext {acc res : List D} {i : Nat} {o : Oper} {b : Bool} (h : acc <+: res) (hi : i ≤ acc.length) (hg : GO l env0 acc i o b) : GO l env0 res i o b := by
  unfold GO at *
  split at hg
  · exact hg
  · obtain ⟨og, s, h1, h2, h3⟩ := hg
    refine ⟨og, s, h1, h2, h3.imp (fun ⟨c, h4, h5⟩ => ⟨c, (Srd.ext h hi).1 h4, h5⟩) fun ⟨h4, h5⟩ => ⟨(Srd.ext h hi).1 h4, h5⟩⟩
theorem rsW_ok {E : List (Nat × D)} : ∀ {ts : List Nat} {k : List (Nat × D) → Prop}, rsW ts E k → ∃ r, k r ∧ ∀ t d, (t, d) ∈ r → t ∈ ts ∧ lk t E = some d
  | [], k, h => ⟨[], h, by simp⟩
  | t :: ts, k, h => by
    obtain ⟨d, hd, h⟩ := lkW_ok h
    obtain ⟨r, hk, hr⟩ := rsW_ok h
    refine ⟨_, hk, fun u e hu => ?_⟩
    rcases List.mem_cons.1 hu with h | h
    · cases h; exact ⟨by simp, hd⟩
    · obtain ⟨h1, h2⟩ := hr u e h; exact ⟨by simp [h1], h2⟩
theorem Coh.step {acc : List D} {i : Nat} {E : List (Nat × D)} {o : Oper} {d : D} (h : Coh l env0 acc i E) (hi : acc.length = i) (ho : l[i]? = some o) :
    Coh l env0 (acc ++ [d]) (i + 1) (match o.dst with | none => E | some s => (s, d) :: E) := by
  intro t e he
  have key : lk t E = some e → o.dst ≠ some t → Srd l env0 (acc ++ [d]) (i + 1) t e := by
    intro h1 h2
    rcases h t e h1 with ⟨j, p, q1, q2, q3, q4⟩ | ⟨q1, q2⟩
    · exact .inl ⟨j, p, by omega, q2, q3, by rw [List.getElem?_append_left (by omega)]; exact q4⟩
    · refine .inr ⟨fun j p hj hp => ?_, q2⟩
      by_cases e1 : j = i
      · subst e1; rw [ho] at hp; cases hp; exact h2
      · exact q1 j p (by omega) hp
  cases hd : o.dst with
  | none => rw [hd] at he; exact key he (by rw [hd]; simp)
  | some s =>
    rw [hd] at he
    simp only [lk] at he
    split at he
    · rename_i e1; cases he; subst e1
      exact .inl ⟨i, o, by omega, ho, hd, by rw [List.getElem?_append_right (by omega)]; simp [hi]⟩
    · rename_i e1; exact key he (by rw [hd]; simp; exact fun h => e1 h.symm)

theorem drw_ext {G : Glob} {P : Program} {n nx : Nat} {own : List (Nat × List D)} {k' : St → Prop} {Z : List Oper → St → Prop} {post : List Oper} (hk' : ∀ S, k' S → Z post S) (hps : (post = [] ∧ ∀ r S, opsW G P l r S k' → Z r S) ∨ ∀ j o, j + post.length < l.length → l[j]? = some o → stb o.op = true) : ∀ (rest : List Oper) (i : Nat) (E : List (Nat × D)) (acc : List D), acc.length = i → i ≤ l.length → l.drop i = rest ++ post → (∀ j o, j < i → l[j]? = some o → stb o.op = true) →
    Coh l env0 acc i E → drwW G P l n nx own rest E k' → ∃ res, acc <+: res ∧ res.length ≤ l.length ∧ (∀ j o, j < res.length → l[j]? = some o → stb o.op = true) ∧ ((post = [] ∧ ∀ o, l[res.length]? = some o → stb o.op = false) ∨ res.length + post.length = l.length) ∧
      (∀ j, i ≤ j → j < res.length → Fact l env0 G P n nx own res j) ∧ ∃ E2, Coh l env0 res res.length E2 ∧ Z (l.drop res.length) ⟨n, nx, E2, own⟩
  | [], i, E, acc, hl, hle, hd, hst, hc, h => by
    rw [List.nil_append] at hd
    have hil : i + post.length = l.length := by
      have := congrArg List.length hd; simp at this; omega
    exact ⟨acc, List.prefix_refl _, by omega, fun j o hj => hst j o (by omega), .inr (by omega), fun j h1 h2 => by omega, E, by rw [hl]; exact hc, by rw [hl, hd]; exact hk' _ h⟩
  | o :: rest, i, E, acc, hl, hle, hd, hst, hc, h => by
    have ho : l[i]? = some o := by
      have := congrArg (fun z => z[0]?) hd; simpa using this
    have hd2 : l.drop (i + 1) = rest ++ post := by
      have := congrArg (List.drop 1) hd; simpa [List.drop_drop] using this
    have hil : i < l.length := (List.getElem?_eq_some_iff.1 ho).1
    unfold drwW at h
    split at h
    · rename_i hs
      rcases hps with ⟨rfl, hZ⟩ | hps
      · exact ⟨acc, List.prefix_refl _, by omega, fun j p hj => hst j p (by omega), .inl ⟨rfl, fun p hp => by rw [hl, ho] at hp; cases hp; exact hs⟩, fun j h1 h2 => by omega, E, by rw [hl]; exact hc, by rw [hl, hd, List.append_nil]; exact hZ _ _ h⟩
      · have hlen : i + (rest.length + 1 + post.length) = l.length := by
          have := congrArg List.length hd; simp at this; omega
        rw [hps i o (by omega) ho] at hs; cases hs
    · rename_i hs
      have hst' : ∀ j p, j < i + 1 → l[j]? = some p → stb p.op = true := fun j p hj hp => by
        by_cases e : j = i
        · subst e; rw [ho] at hp; cases hp; exact hs
        · exact hst j p (by omega) hp
      -- what remains, once the operation's data are known
      have go : ∀ (d : D) (E' : List (Nat × D)), Coh l env0 acc i E' → (putW o.dst d ⟨n, nx, E', own⟩ fun S => drwW G P l n nx own rest S.env k') →
          ((∀ s, o.dst = some s → s < n) → ∀ res, acc ++ [d] <+: res → Fact l env0 G P n nx own res i) →
          ∃ res, acc <+: res ∧ res.length ≤ l.length ∧ (∀ j o, j < res.length → l[j]? = some o → stb o.op = true) ∧ ((post = [] ∧ ∀ o, l[res.length]? = some o → stb o.op = false) ∨ res.length + post.length = l.length) ∧
            (∀ j, i ≤ j → j < res.length → Fact l env0 G P n nx own res j) ∧ ∃ E2, Coh l env0 res res.length E2 ∧ Z (l.drop res.length) ⟨n, nx, E2, own⟩ := by
        intro d E' hc' hp hf
        have hstep := hc'.step (d := d) hl ho
        have : (∀ s, o.dst = some s → s < n) ∧ drwW G P l n nx own rest (match o.dst with | none => E' | some s => (s, d) :: E') k' := by
          cases hdst : o.dst with
          | none => rw [hdst] at hp; exact ⟨(fun s hs => by cases hs), hp⟩
          | some s => rw [hdst] at hp; exact ⟨fun s' hs => by cases hs; exact hp.1, hp.2⟩
        obtain ⟨res, r1, r2, r3, r4, r5, r6⟩ := drw_ext hk' hps rest (i + 1) _ (acc ++ [d]) (by simp [hl]) (by omega) hd2 hst' hstep this.2
        refine ⟨res, (List.prefix_append acc [d]).trans r1, r2, r3, r4, fun j h1 h2 => ?_, r6⟩
        by_cases e : j = i
        · subst e; exact hf this.1 res r1
        · exact r5 j (by omega) h2
      have getd : ∀ {d : D} {res : List D}, acc ++ [d] <+: res → res[i]? = some d := by
        rintro d res ⟨r, rfl⟩
        rw [List.append_assoc, List.getElem?_append_right (by omega), hl]; simp
      have pre : ∀ {d : D} {res : List D}, acc ++ [d] <+: res → acc <+: res := fun h => (List.prefix_append _ _).trans h
      -- the operation is carried out
      have wanted : ∀ (E' : List (Nat × D)), Coh l env0 acc i E' → GO l env0 acc i o true →
          (rsW (rdsO o.op) E' fun r => exD (fun d => ∀ E'' : List (Nat × D), opW G P o.op ⟨n, nx, r ++ E'', own⟩ fun x T => x = d ∧ T = ⟨n, nx, r ++ E'', own⟩) (fun d => putW o.dst d ⟨n, nx, E', own⟩ fun S => drwW G P l n nx own rest S.env k') (tgd _)) →
          ∃ res, acc <+: res ∧ res.length ≤ l.length ∧ (∀ j o, j < res.length → l[j]? = some o → stb o.op = true) ∧ ((post = [] ∧ ∀ o, l[res.length]? = some o → stb o.op = false) ∨ res.length + post.length = l.length) ∧
            (∀ j, i ≤ j → j < res.length → Fact l env0 G P n nx own res j) ∧ ∃ E2, Coh l env0 res res.length E2 ∧ Z (l.drop res.length) ⟨n, nx, E2, own⟩ := by
        intro E' hc' hgo hr
        obtain ⟨r, ⟨d, hop, hk⟩, hrr⟩ := rsW_ok hr
        refine go d E' hc' hk fun hsn res hp => ⟨o, d, ho, getd hp, hsn, .inl ⟨hgo.ext (pre hp) (by omega), r, fun t e he => ⟨(hrr t e he).1, (Srd.ext (pre hp) (by omega)).1 (hc' t e (hrr t e he).2)⟩, hop⟩⟩
      have skipped : ∀ (E' : List (Nat × D)), Coh l env0 acc i E' → GO l env0 acc i o false → (putW o.dst (.tup []) ⟨n, nx, E', own⟩ fun S => drwW G P l n nx own rest S.env k') →
          ∃ res, acc <+: res ∧ res.length ≤ l.length ∧ (∀ j o, j < res.length → l[j]? = some o → stb o.op = true) ∧ ((post = [] ∧ ∀ o, l[res.length]? = some o → stb o.op = false) ∨ res.length + post.length = l.length) ∧
            (∀ j, i ≤ j → j < res.length → Fact l env0 G P n nx own res j) ∧ ∃ E2, Coh l env0 res res.length E2 ∧ Z (l.drop res.length) ⟨n, nx, E2, own⟩ := by
        intro E' hc' hgo hk
        exact go _ E' hc' hk fun hsn res hp => ⟨o, _, ho, getd hp, hsn, .inr ⟨hgo.ext (pre hp) (by omega), rfl⟩⟩
      unfold grdW at h
      split at h
      · rename_i hg
        exact wanted E hc (by unfold GO; rw [hg]) h
      · rename_i g want hg
        obtain ⟨s, hs2, h⟩ := dstW_ok h
        obtain ⟨og, hog, hogd⟩ : ∃ og, l[g]? = some og ∧ og.dst = some s := by
          cases hx : l[g]? with
          | none => rw [hx] at hs2; cases hs2
          | some og => rw [hx] at hs2; exact ⟨og, rfl, hs2⟩
        obtain ⟨dg, hdg, h⟩ := lkW_ok h
        have hsrc := hc s dg hdg
        have hcons : ∀ b : Bool, dg = .bool b → Coh l env0 acc i ((s, .bool b) :: E) := by
          intro b hb t e he
          simp only [lk] at he
          split at he
          · rename_i e1; cases he; subst e1; rw [← hb]; exact hsrc
          · exact hc t e he
        split at h
        · rename_i c
          by_cases e : c = want
          · exact wanted _ (hcons want (by rw [e])) (by unfold GO; rw [hg]; exact ⟨og, s, hog, hogd, .inl ⟨c, hsrc, by simp [e]⟩⟩) (h.1 e)
          · have e2 : (!want) = c := by cases c <;> cases want <;> simp_all
            exact skipped _ (hcons (!want) (by rw [e2])) (by unfold GO; rw [hg]; exact ⟨og, s, hog, hogd, .inl ⟨c, hsrc, by simp [e]⟩⟩) (h.2 e)
        · exact skipped E hc (by unfold GO; rw [hg]; exact ⟨og, s, hog, hogd, .inr ⟨hsrc, rfl⟩⟩) h
        · exact h.elim

/-! ### In whatever order -/
open Classical in
/-- What is known of the slots, once these operations are done. -/
def eL (l : List Oper) (env0 : List (Nat × D)) (res : List D) (m : Nat) (L : Array Bool) (t : Nat) (d : D) : Prop :=
  (∃ j o, j < m ∧ Lst L j ∧ l[j]? = some o ∧ o.dst = some t ∧ res[j]? = some d) ∨ ((∀ j o, j < m → Lst L j → l[j]? = some o → o.dst ≠ some t) ∧ lk t env0 = some d)
theorem nodup_dst : ∀ {l : List Oper} {m i j : Nat} {o p : Oper} {t : Nat}, ((l.take m).filterMap (·.dst)).Nodup → i < m → j < m → l[i]? = some o → l[j]? = some p → o.dst = some t → p.dst = some t → i = j := by
  intro l
  induction l with
  | nil => intro m i j o p t _ _ _ hi; simp at hi
  | cons x r ih =>
    intro m i j o p t hn hi hj hio hjp ho hp
    cases m with
    | zero => omega
    | succ m =>
      rw [List.take_succ_cons] at hn
      have mem : ∀ {k : Nat} {q : Oper}, k < m → r[k]? = some q → q.dst = some t → t ∈ (r.take m).filterMap (·.dst) := fun {k q} hk hq hd =>
        List.mem_filterMap.2 ⟨q, List.mem_of_getElem? (by rw [List.getElem?_take_of_lt hk]; exact hq), hd⟩
      cases i with
      | zero =>
        cases j with
        | zero => rfl
        | succ j =>
          simp at hio; subst hio
          rw [List.filterMap_cons, ho, List.nodup_cons] at hn
          exact absurd (mem (k := j) (by omega) (by simpa using hjp) hp) hn.1
      | succ i =>
        cases j with
        | zero =>
          simp at hjp; subst hjp
          rw [List.filterMap_cons, hp, List.nodup_cons] at hn
          exact absurd (mem (k := i) (by omega) (by simpa using hio) ho) hn.1
        | succ j =>
          have hn2 : ((r.take m).filterMap (·.dst)).Nodup := by
            rw [List.filterMap_cons] at hn
            split at hn
            · exact hn
            · exact (List.nodup_cons.1 hn).2
          have e := ih (m := m) (i := i) (j := j) hn2 (by omega) (by omega) (by simpa using hio) (by simpa using hjp) ho hp
          rw [e]
theorem eL_fun {res : List D} {m : Nat} {L : Array Bool} {t : Nat} {d e : D} (hB : DrwB l m) (h1 : eL l env0 res m L t d) (h2 : eL l env0 res m L t e) : d = e := by
  rcases h1 with ⟨j, o, a1, a2, a3, a4, a5⟩ | ⟨a1, a2⟩ <;> rcases h2 with ⟨j', o', b1, b2, b3, b4, b5⟩ | ⟨b1, b2⟩
  · obtain rfl := nodup_dst hB.nodup a1 b1 a3 b3 a4 b4
    exact Option.some.inj (a5.symm.trans b5)
  · exact absurd a4 (b1 j o a1 a2 a3)
  · exact absurd b4 (a1 j' o' b1 b2 b3)
  · exact Option.some.inj (a2.symm.trans b2)
/-- What an operation reads of earlier ones is there. -/
theorem Srd.eL {res : List D} {m i t : Nat} {d : D} {o : Oper} {L : Array Bool} (hB : DrwB l m) (him : i < m) (ho : l[i]? = some o) (ht : t ∈ rdsO o.op ++ (grdSlot l o).toList) (hp : ∀ e ∈ o.after.toList, Region.binds .any e = true → Lst L e.on)
    (h : Srd l env0 res i t d) : eL l env0 res m L t d := by
  have mem : ∀ {k : Nat} {q : Oper}, k < m → l[k]? = some q → (q, k) ∈ (l.take m).zipIdx := fun {k q} hk hq => mem_zip (by rw [List.getElem?_take_of_lt hk]; exact hq)
  have lst : ∀ j, dir o j = true → Lst L j := by
    intro j hj
    obtain ⟨e, he, h⟩ := List.any_eq_true.1 hj
    simp only [Bool.and_eq_true, beq_iff_eq] at h
    rw [← h.2]; exact hp e he h.1
  rcases h with ⟨j, p, h1, h2, h3, h4⟩ | ⟨h1, h2⟩
  · have := hB.reads _ (mem him ho) t ht _ (mem (by omega) h2) h3
    exact .inl ⟨j, p, by omega, lst j this.2, h2, h3, h4⟩
  · refine .inr ⟨fun j p hj _ hp2 hd => ?_, h2⟩
    have := hB.reads _ (mem him ho) t ht _ (mem hj hp2) hd
    exact h1 j p this.1 hp2 hd

noncomputable def fE (f : Nat → D → Prop) (t : Nat) : Option D := @dite _ (∃ d, f t d) (Classical.propDecidable _) (fun h => some (Classical.choose h)) fun _ => none
noncomputable def EnvOf (n : Nat) (f : Nat → D → Prop) : List (Nat × D) := (List.range n).filterMap fun t => (fE f t).map fun d => (t, d)
theorem fE_ok {f : Nat → D → Prop} {t : Nat} {d : D} (h : fE f t = some d) : f t d := by
  unfold fE at h
  split at h
  · rename_i hx; cases h; exact Classical.choose_spec hx
  · cases h
theorem lk_filter {g : Nat → Option D} : ∀ (ts : List Nat) (t : Nat), lk t (ts.filterMap fun t => (g t).map fun d => (t, d)) = if t ∈ ts then g t else none
  | [], t => rfl
  | u :: r, t => by
    have ih := lk_filter (g := g) r t
    rw [List.filterMap_cons]
    cases hg : g u with
    | none =>
      simp only [Option.map_none]
      rw [ih]
      by_cases e : t = u
      · subst e; simp [hg]
      · simp [e]
    | some d =>
      simp only [Option.map_some, lk]
      by_cases e : t = u
      · subst e; simp [hg]
      · rw [if_neg e, ih]; simp [e]
theorem lk_EnvOf {n t : Nat} {f : Nat → D → Prop} : lk t (EnvOf n f) = if t < n then fE f t else none := by
  unfold EnvOf
  rw [lk_filter]; simp
theorem lk_app {t : Nat} : ∀ {a b : List (Nat × D)} {d : D}, lk t (a ++ b) = some d → (t, d) ∈ a ∨ ((∀ e, (t, e) ∉ a) ∧ lk t b = some d)
  | [], b, d, h => .inr ⟨by simp, h⟩
  | (s, e) :: a, b, d, h => by
    simp only [List.cons_append, lk] at h
    split at h
    · rename_i h1; cases h; subst h1; exact .inl (by simp)
    · rename_i h1
      rcases lk_app h with h | ⟨h2, h3⟩
      · exact .inl (by simp [h])
      · exact .inr ⟨fun e' he => by rcases List.mem_cons.1 he with h | h; · cases h; exact h1 rfl
                                    · exact h2 _ h, h3⟩
theorem lk_app_mk {t : Nat} {a b : List (Nat × D)} {d : D} (hb : lk t b = some d) (ha : ∀ e, (t, e) ∈ a → e = d) : lk t (a ++ b) = some d := by
  induction a with
  | nil => exact hb
  | cons x a ih =>
    obtain ⟨s, e⟩ := x
    simp only [List.cons_append, lk]
    split
    · rename_i h1; subst h1; rw [ha e (by simp)]
    · exact ih fun e he => ha e (by simp [he])

def unl (L : Array Bool) : Nat := L.toList.count false
theorem unl_set {L : Array Bool} {i : Nat} (h : L.getD i true = false) : unl (L.setIfInBounds i true) + 1 = unl L := by
  have hi : i < L.size := by
    rcases Nat.lt_or_ge i L.size with h2 | h2
    · exact h2
    · rw [Array.getD_eq_getD_getElem?, Array.getElem?_eq_none h2] at h; cases h
  have hv : L.toList[i]'(by simpa using hi) = false := by
    rw [Array.getD_eq_getD_getElem?, Array.getElem?_eq_getElem hi] at h
    simpa using h
  unfold unl
  rw [Array.toList_setIfInBounds, List.count_set (by simpa using hi), hv]
  have : 0 < L.toList.count false := List.count_pos_iff.2 (by rw [← hv]; exact List.getElem_mem _)
  rw [if_pos (by rfl), if_neg (by decide)]; omega
theorem lst_set {L : Array Bool} {i j : Nat} (hi : i < L.size) : Lst (L.setIfInBounds i true) j ↔ j = i ∨ Lst L j := by
  unfold Lst
  by_cases e : j = i
  · subst e; simp [Array.getD_eq_getD_getElem?, hi]
  · simp only [Array.getD_eq_getD_getElem?, e, false_or]
    rw [Array.getElem?_setIfInBounds_ne (fun h => e h.symm)]

section
variable {G : Glob} {P : Program} {w0 : Bas} {n nx : Nat} {own : List (Nat × List D)} {Q : Exit → Act → World → Prop} {df : List Deferred} {res : List D} {m : Nat} {r : Option Nat} {N : Nat}

structure InvC (l : List Oper) (L : Array Bool) : Prop where
  size : L.size = l.length
  closed : Closed l L
/-- Before the tail; in the tail. -/
def Inv (r : Option Nat) (N : Nat) (G : Glob) (P : Program) (w0 : Bas) (n nx : Nat) (own : List (Nat × List D)) (Q : Exit → Act → World → Prop) (df : List Deferred) (l : List Oper) (env0 : List (Nat × D)) (res : List D) (m : Nat) (L : Array Bool) (a : Act) (w : World) : Prop :=
  ((∀ j, m ≤ j → ¬ Lst L j) ∧ a.defers = df ∧ ∃ φ, SatC w0 φ ⟨n, nx, [], own⟩ a.tmps w ∧ ∀ t d, eL l env0 res m L t d → ∃ v, a.tmps[t]? = some v ∧ Rep φ w (FSx φ own w) v d) ∨
  ∃ j0, m ≤ j0 ∧ (∀ j, j < j0 → j < l.length → Lst L j) ∧ (∀ j, j0 ≤ j → ¬ Lst L j) ∧ wpListIn (fw r) N P l.toArray Q (l.drop j0) a w

theorem all_listed (hB : DrwB l m) {L : Array Bool} (hs : L.size = l.length) (hr : Region.ready .any l.toArray L = []) : ∀ j, j < l.length → Lst L j := by
  intro j
  induction j using Nat.strongRecOn with
  | ind j ih =>
    intro hj
    cases hL : L.getD j true with
    | true =>
      unfold Lst
      rw [Array.getD_eq_getD_getElem?, Array.getElem?_eq_getElem (by omega)] at hL ⊢
      exact hL
    | false =>
      have : j ∈ Region.ready .any l.toArray L := mem_ready.2 ⟨hL, l[j], by simp [hj], fun e he hb => by
        have := hB.back (l[j], j) (mem_zip (by simp [hj])) e (by simpa using he) hb
        exact ih e.on this (by simp only at this; omega)⟩
      rw [hr] at this; cases this
theorem lst_false {L : Array Bool} {j : Nat} (h : L.getD j true = false) : ¬ Lst L j := by
  unfold Lst
  intro h2
  rcases Nat.lt_or_ge j L.size with hl | hl
  · rw [Array.getD_eq_getD_getElem?, Array.getElem?_eq_getElem hl] at h h2
    simp at h h2; rw [h] at h2; cases h2
  · rw [Array.getD_eq_getD_getElem?, Array.getElem?_eq_none hl] at h; cases h

theorem drw_run (hG : GOk G w0) (hB : DrwB l m) (hml : m ≤ l.length) (hmr : res.length = m) (hf : ∀ j, j < m → Fact l env0 G P n nx own res j)
    (E2 : List (Nat × D)) (hE2 : Coh l env0 res m E2) (tailOk : ∀ (a : Act) (w : World) (φ : Loc), a.defers = df → SatC w0 φ ⟨n, nx, E2, own⟩ a.tmps w → wpListIn (fw r) N P l.toArray Q (l.drop m) a w) :
    ∀ (fuel : Nat) (L : Array Bool) (a : Act) (w : World), InvC l L → unl L ≤ fuel → Inv r N G P w0 n nx own Q df l env0 res m L a w → wpAnyIn (fw r) N P .any l.toArray Q fuel L a w := by
  -- all of the head is done: the tail is next
  have toTail : ∀ {L : Array Bool} {a : Act} {w : World}, (∀ j, j < m → Lst L j) → Inv r N G P w0 n nx own Q df l env0 res m L a w → ∃ j0, m ≤ j0 ∧ (∀ j, j < j0 → j < l.length → Lst L j) ∧ (∀ j, j0 ≤ j → ¬ Lst L j) ∧ wpListIn (fw r) N P l.toArray Q (l.drop j0) a w := by
    intro L a w hall h
    rcases h with ⟨h1, hd, φ, hs, he⟩ | h
    · refine ⟨m, Nat.le_refl _, fun j hj _ => hall j hj, h1, tailOk a w φ hd ⟨hs.below, hs.size, hs.own, hs.inj, fun s d hd => he s d ?_, hs.base, hs.pin⟩⟩
      rcases hE2 s d hd with ⟨j, o, q1, q2, q3, q4⟩ | ⟨q1, q2⟩
      · exact .inl ⟨j, o, q1, hall j q1, q2, q3, q4⟩
      · exact .inr ⟨fun j o hj _ hl => q1 j o hj hl, q2⟩
    · exact h
  have finish : ∀ {L : Array Bool} {a : Act} {w : World}, InvC l L → Region.ready .any l.toArray L = [] → Inv r N G P w0 n nx own Q df l env0 res m L a w → Q .normal a w := by
    intro L a w hI hr h
    have hall := all_listed hB hI.size hr
    obtain ⟨j0, h1, h2, h3, h4⟩ := toTail (fun j hj => hall j (by omega)) h
    have : l.length ≤ j0 := by
      rcases Nat.lt_or_ge j0 l.length with h | h
      · exact absurd (hall j0 h) (h3 j0 (Nat.le_refl _))
      · exact h
    rw [List.drop_of_length_le this] at h4
    exact h4
  intro fuel
  induction fuel with
  | zero =>
    intro L a w hI hu h
    have hr : Region.ready .any l.toArray L = [] := by
      rw [List.eq_nil_iff_forall_not_mem]
      intro j hj
      have := unl_set (mem_ready.1 hj).1
      omega
    exact ⟨hr, finish hI hr h⟩
  | succ fuel ih =>
    intro L a w hI hu h
    refine ⟨fun hr => finish hI hr h, fun i hi => ?_⟩
    obtain ⟨hun, o, ho, hp⟩ := mem_ready.1 hi
    have ho' : l[i]? = some o := by simpa using ho
    have hil : i < l.length := (List.getElem?_eq_some_iff.1 ho').1
    have hp' : ∀ e ∈ o.after.toList, Region.binds .any e = true → Lst L e.on := fun e he hb => hp e (by simpa using he) hb
    have hnl := lst_false hun
    have hisz : i < L.size := by rw [hI.size]; exact hil
    have hI' : InvC l (L.setIfInBounds i true) := by
      refine ⟨by simp [hI.size], fun j p hj hl e he hb => ?_⟩
      rw [lst_set hisz] at hl ⊢
      rcases hl with rfl | hl
      · rw [ho'] at hj; cases hj; exact .inr (hp' e he hb)
      · exact .inr (hI.closed j p hj hl e he hb)
    have hu' : unl (L.setIfInBounds i true) ≤ fuel := by have := unl_set hun; omega
    unfold wpOpIn
    rw [ho]
    simp only
    by_cases him : m ≤ i
    · -- the tail
      have hall := tail_all hB hI.closed ho' him hp'
      obtain ⟨j0, h1, h2, h3, h4⟩ := toTail (fun j hj => hall j (by omega)) h
      obtain rfl : j0 = i := by
        rcases Nat.lt_trichotomy j0 i with hlt | he | hgt
        · exact absurd (hall j0 hlt) (h3 j0 (Nat.le_refl _))
        · exact he
        · exact absurd (h2 i hgt hil) hnl
      rw [List.drop_eq_getElem_cons hil] at h4
      have hoe : l[j0] = o := by rw [List.getElem?_eq_getElem hil] at ho'; exact Option.some.inj ho'
      rw [hoe] at h4
      unfold wpListIn at h4
      have next : ∀ a' w', wpListIn (fw r) N P l.toArray Q (l.drop (j0 + 1)) a' w' → wpAnyIn (fw r) N P .any l.toArray Q fuel (L.setIfInBounds j0 true) a' w' := by
        intro a' w' hw
        refine ih _ a' w' hI' hu' (.inr ⟨j0 + 1, by omega, fun j hj hjl => ?_, fun j hj hl => ?_, hw⟩)
        · rw [lst_set hisz]
          by_cases e : j = j0
          · exact .inl e
          · exact .inr (hall j (by omega))
        · rw [lst_set hisz] at hl
          rcases hl with e | hl
          · omega
          · exact h3 j (by omega) hl
      split at h4
      · rename_i hw; rw [if_pos hw]; exact Oper.wpIn_mono next h4
      · rename_i hw; rw [if_neg hw]; exact ⟨h4.1, next _ _ h4.2⟩
    · -- the head
      have him : i < m := by omega
      have hA : (∀ j, m ≤ j → ¬ Lst L j) ∧ a.defers = df ∧ ∃ φ, SatC w0 φ ⟨n, nx, [], own⟩ a.tmps w ∧ ∀ t d, eL l env0 res m L t d → ∃ v, a.tmps[t]? = some v ∧ Rep φ w (FSx φ own w) v d := by
        rcases h with h | ⟨j0, h1, h2, _⟩
        · exact h
        · exact absurd (h2 i (by omega) hil) hnl
      obtain ⟨hA1, hAd, φ, hs, he⟩ := hA
      obtain ⟨o2, d, ho2, hres, hdst, hfact⟩ := hf i him
      rw [ho'] at ho2; cases ho2
      -- what an operation reads is known
      have rd : ∀ {t d}, t ∈ rdsO o.op ++ (grdSlot l o).toList → Srd l env0 res i t d → ∃ v, a.tmps[t]? = some v ∧ Rep φ w (FSx φ own w) v d := fun ht h => he _ _ (h.eL hB him ho' ht hp')
      -- the state behind it
      have step : ∀ {a' : Act} {w' : World} {φ' : Loc} {v : Value}, a' = a.put o.dst v → SatC w0 φ' ⟨n, nx, [], own⟩ a.tmps w' → (∀ t d, eL l env0 res m L t d → ∃ v, a.tmps[t]? = some v ∧ Rep φ' w' (FSx φ' own w') v d) → Rep φ' w' (FSx φ' own w') v d →
          wpAnyIn (fw r) N P .any l.toArray Q fuel (L.setIfInBounds i true) a' w' := by
        rintro a' w' φ' v rfl hs' he' hr
        have hsz : a.tmps.size = n := hs'.size
        refine ih _ _ w' hI' hu' (.inl ⟨fun j hj hl => ?_, by rw [put_defers]; exact hAd, φ', ?_, fun t e hte => ?_⟩)
        · rw [lst_set hisz] at hl
          rcases hl with h | h
          · omega
          · exact hA1 j hj h
        · cases hd : o.dst with
          | none => exact hs'
          | some s => exact ⟨hs'.below, by simp [Act.put, hsz], hs'.own, hs'.inj, fun s d hd => by simp [lk] at hd, hs'.base, hs'.pin⟩
        · -- the slot that is written, the others
          have old : o.dst ≠ some t → eL l env0 res m L t e → ∃ v', (a.put o.dst v).tmps[t]? = some v' ∧ Rep φ' w' (FSx φ' own w') v' e := by
            intro hne hx
            obtain ⟨u, hu1, hu2⟩ := he' t e hx
            refine ⟨u, ?_, hu2⟩
            cases hd : o.dst with
            | none => exact hu1
            | some s =>
              have : s ≠ t := fun h => hne (by rw [hd, h])
              simp only [Act.put]
              rw [Array.getElem?_setIfInBounds_ne this]; exact hu1
          have new : o.dst = some t → e = d → ∃ v', (a.put o.dst v).tmps[t]? = some v' ∧ Rep φ' w' (FSx φ' own w') v' e := by
            intro hd hed
            subst hed
            rw [hd]
            exact ⟨v, by simp only [Act.put]; rw [Array.getElem?_setIfInBounds_self_of_lt (by rw [hsz]; exact hdst t hd)], hr⟩
          rcases hte with ⟨j, p, q1, q2, q3, q4, q5⟩ | ⟨q1, q2⟩
          · rw [lst_set hisz] at q2
            by_cases hji : j = i
            · subst hji
              rw [ho'] at q3; cases q3
              exact new q4 (Option.some.inj (q5.symm.trans hres))
            · have q2 : Lst L j := q2.resolve_left hji
              exact old (fun hd => hji (nodup_dst hB.nodup q1 him q3 ho' q4 hd)) (.inl ⟨j, p, q1, q2, q3, q4, q5⟩)
          · exact old (q1 i o him (by rw [lst_set hisz]; exact .inl rfl) ho') (.inr ⟨fun j p hj hl hp => q1 j p hj (by rw [lst_set hisz]; exact .inr hl) hp, q2⟩)
      -- the guard
      have grd : ∀ {b : Bool}, GO l env0 res i o b → Region.wanted o (yielded l.toArray a.tmps) = b := by
        intro b hgo
        unfold GO at hgo
        unfold Region.wanted
        split at hgo
        · rename_i hg; rw [hg]; exact hgo.symm
        · rename_i g want hg
          obtain ⟨og, s, hog, hogd, hc⟩ := hgo
          have hslot : s ∈ rdsO o.op ++ (grdSlot l o).toList := by
            simp [grdSlot, hg, hog, hogd]
          have hy : (l[g]?).bind (·.dst) = some s := by rw [hog]; exact hogd
          rw [hg]
          simp only
          rcases hc with ⟨c, hsrc, rfl⟩ | ⟨hsrc, rfl⟩
          · obtain ⟨v, hv, hrep⟩ := rd hslot hsrc
            rw [yielded_at hy hv, hrep.bool_inv]
            cases c <;> cases want <;> rfl
          · obtain ⟨v, hv, hrep⟩ := rd hslot hsrc
            obtain ⟨vs, rfl, _⟩ := hrep.tup_inv
            rw [yielded_at hy hv]; rfl
      rcases hfact with ⟨hgo, r, hr, hop⟩ | ⟨hgo, rfl⟩
      · rw [grd hgo, if_pos rfl]
        -- all that is known, as a list
        have hEn : ∀ t e, lk t (r ++ EnvOf n (eL l env0 res m L)) = some e → eL l env0 res m L t e := by
          intro t e hx
          rcases lk_app hx with hx | ⟨_, hx⟩
          · exact (hr t e hx).2.eL hB him ho' (by simp [(hr t e hx).1]) hp'
          · rw [lk_EnvOf] at hx
            split at hx
            · exact fE_ok hx
            · cases hx
        have hs2 : SatC w0 φ ⟨n, nx, r ++ EnvOf n (eL l env0 res m L), own⟩ a.tmps w := ⟨hs.below, hs.size, hs.own, hs.inj, fun s d hd => he s d (hEn s d hd), hs.base, hs.pin⟩
        refine opW_ok hG hs2 o (hop _) ?_
        rintro v w' ⟨φ', x, S', ⟨rfl, rfl⟩, hs3, hr3, _⟩
        refine step rfl ⟨hs3.below, hs3.size, hs3.own, hs3.inj, fun s d hd => by simp [lk] at hd, hs3.base, hs3.pin⟩ (fun t e hx => hs3.env t e ?_) hr3
        have hlt : t < n := by
          obtain ⟨u, hu1, _⟩ := he t e hx
          have := (Array.getElem?_eq_some_iff.1 hu1).1
          have h2 : a.tmps.size = n := hs.size
          omega
        refine lk_app_mk ?_ fun e' he' => eL_fun hB ((hr t e' he').2.eL hB him ho' (by simp [(hr t e' he').1]) hp') hx
        rw [lk_EnvOf, if_pos hlt]
        have hex : ∃ d, eL l env0 res m L t d := ⟨e, hx⟩
        unfold fE
        rw [dif_pos hex]
        rw [eL_fun hB (Classical.choose_spec hex) hx]
      · rw [grd hgo, if_neg (by simp)]
        refine ⟨fun _ _ => trivial, ?_⟩
        exact step rfl hs he (.ro (.tup rfl fun i v d hv => by simp [undef] at hv))
end

/-! ### The region -/
theorem lst_none {n j : Nat} : ¬ Lst (Array.replicate n false) j := by
  unfold Lst
  rw [Array.getD_eq_getD_getElem?, Array.getElem?_replicate]
  split <;> simp
theorem takeWhile_st {l : List Oper} {m : Nat} (h1 : ∀ j o, j < m → l[j]? = some o → stb o.op = true) (h2 : ∀ o, l[m]? = some o → stb o.op = false) (hm : m ≤ l.length) : preN l = m := by
  unfold preN
  induction l generalizing m with
  | nil => simp at hm; simp [hm]
  | cons x r ih =>
    cases m with
    | zero =>
      have := h2 x rfl
      simp [List.takeWhile_cons, this]
    | succ m =>
      have := h1 0 x (by omega) rfl
      rw [List.takeWhile_cons, this, if_pos rfl, List.length_cons]
      rw [ih (m := m) (fun j o hj ho => h1 (j + 1) o (by omega) (by simpa using ho)) (fun o ho => h2 o (by simpa using ho)) (by simpa using hm)]

theorem drw_fin {r : Option Nat} {N : Nat} {G : Glob} {P : Program} {w0 : Bas} {w : World} {φ : Loc} {S : St} {a : Act} {Q : Exit → Act → World → Prop} {l : List Oper} {id : Nat} {res : List D} {E2 : List (Nat × D)} (hG : GOk G w0) (hm : P.follows .mixedOrders = true) (hB : drwB l res.length = true)
    (hs : SatC w0 φ S a.tmps w) (r2 : res.length ≤ l.length) (r5 : ∀ j, 0 ≤ j → j < res.length → Fact l S.env G P S.n S.nx S.own res j) (hE2 : Coh l S.env res res.length E2) (ht : ∀ a' w' φ', SatC w0 φ' ⟨S.n, S.nx, E2, S.own⟩ a'.tmps w' → a'.defers = a.defers → wpListIn (fw r) N P l.toArray Q (l.drop res.length) a' w') : (Code.region id l.toArray true).wpIn (fw r) N P Q a w := by
  have hB := drwB_ok hB
  refine wpIn_region_any hm ?_
  have hsz : l.toArray.size = l.length := by simp
  rw [hsz]
  refine drw_run (w0 := w0) (n := S.n) (nx := S.nx) (own := S.own) (df := a.defers) (res := res) (m := res.length) (env0 := S.env) hG hB r2 rfl (fun j hj => r5 j (by omega) hj) E2 hE2 (fun a' w' φ' hd hs' => ?_) l.length _ a _ ⟨by simp, fun j o hj hl => ?_⟩ ?_ (.inl ⟨fun j hj hl => ?_, rfl, φ, ?_⟩)
  · exact ht a' w' φ' hs' hd
  · exact absurd hl lst_none
  · unfold unl; simp
  · exact absurd hl lst_none
  · have hs2 := hs.drew
    refine ⟨⟨hs2.below, hs2.size, hs2.own, hs2.inj, fun s d hd => by simp [lk] at hd, hs2.base, hs2.pin⟩, fun t d ht => ?_⟩
    refine hs2.env t d ?_
    rcases ht with ⟨j, o, q1, q2, q3, q4, q5⟩ | ⟨_, q2⟩
    · exact absurd q2 lst_none
    · exact q2
theorem drw_ok {r : Option Nat} {N : Nat} {G : Glob} {P : Program} {w0 : Bas} {w : World} {φ : Loc} {S : St} {a : Act} {k : St → Prop} {Q : Exit → Act → World → Prop} {l : List Oper} {id : Nat} (hG : GOk G w0) (hm : P.follows .mixedOrders = true) (hB : drwB l (preN l) = true)
    (hs : SatC w0 φ S a.tmps w) (h : drwW G P l S.n S.nx S.own l S.env k) (hn : ∀ S' a' w' φ', k S' → SatC w0 φ' S' a'.tmps w' → S'.n = S.n → a'.defers = a.defers → Q .normal a' w') : (Code.region id l.toArray true).wpIn (fw r) N P Q a w := by
  obtain ⟨res, _, r2, r3, r4, r5, E2, hE2, hk⟩ := drw_ext (l := l) (env0 := S.env) (Z := fun r S => opsW G P l r S k) (k' := k) (post := []) (fun S h => h) (.inl ⟨rfl, fun _ _ h => h⟩) l 0 S.env [] rfl (Nat.zero_le _) (by simp) (fun j o hj => by omega) (fun t d hd => .inr ⟨fun j o hj => by omega, hd⟩) h
  have hpre : preN l = res.length := takeWhile_st r3 (fun o ho => by
    rcases r4 with r4 | r4
    · exact r4.2 o ho
    · rw [List.getElem?_eq_none (by simp at r4; omega)] at ho; cases ho) r2
  rw [hpre] at hB
  exact drw_fin hG hm hB hs r2 r5 hE2 fun a' w' φ' hs' hd => opsW_ok hG hs' hk fun S2 a2 w2 φ2 q1 q2 q3 q4 => hn S2 a2 w2 φ2 q1 q2 q3 (q4.trans hd)
/-- The same, where the operations that may come in any order are the first m. -/
theorem drw_ok2 {r : Option Nat} {N : Nat} {G : Glob} {P : Program} {w0 : Bas} {w : World} {φ : Loc} {S : St} {a : Act} {k : St → Prop} {Q : Exit → Act → World → Prop} {l : List Oper} {id m : Nat} (hG : GOk G w0) (hm : P.follows .mixedOrders = true) (hml : m ≤ l.length) (hst : (l.take m).all (fun o => stb o.op) = true) (hB : drwB l m = true)
    (hs : SatC w0 φ S a.tmps w) (h : drwW G P l S.n S.nx S.own (l.take m) S.env fun S => opsW G P l (l.drop m) S k) (hn : ∀ S' a' w' φ', k S' → SatC w0 φ' S' a'.tmps w' → S'.n = S.n → a'.defers = a.defers → Q .normal a' w') : (Code.region id l.toArray true).wpIn (fw r) N P Q a w := by
  have hst' : ∀ (j : Nat) (o : Oper), j + (l.drop m).length < l.length → l[j]? = some o → stb o.op = true := by
    intro j o hj ho
    rw [List.length_drop] at hj
    exact List.all_eq_true.1 hst o (List.mem_of_getElem? (by rw [List.getElem?_take_of_lt (show j < m by omega)]; exact ho))
  by_cases hml2 : m = l.length
  · subst hml2
    rw [List.take_length, List.drop_length] at h
    refine drw_ok hG hm ?_ hs h hn
    rw [takeWhile_st (m := l.length) (fun j o hj ho => List.all_eq_true.1 hst o (by rw [List.take_length]; exact List.mem_of_getElem? ho)) (fun o ho => by rw [List.getElem?_eq_none (by omega)] at ho; cases ho) (Nat.le_refl _)]
    exact hB
  obtain ⟨res, _, r2, r3, r4, r5, E2, hE2, hk⟩ := drw_ext (l := l) (env0 := S.env) (Z := fun r S => opsW G P l r S k) (k' := fun S => opsW G P l (l.drop m) S k) (post := l.drop m) (fun S h => h) (.inr hst') (l.take m) 0 S.env [] rfl (Nat.zero_le _) (by simp) (fun j o hj => by omega) (fun t d hd => .inr ⟨fun j o hj => by omega, hd⟩) h
  have hpre : res.length = m := by
    rcases r4 with r4 | r4
    · have := congrArg List.length r4.1
      rw [List.length_drop, List.length_nil] at this; omega
    · rw [List.length_drop] at r4; omega
  rw [← hpre] at hB
  exact drw_fin hG hm hB hs r2 r5 hE2 fun a' w' φ' hs' hd => opsW_ok hG hs' hk fun S2 a2 w2 φ2 q1 q2 q3 q4 => hn S2 a2 w2 φ2 q1 q2 q3 (q4.trans hd)
/-- .. and whatever the rest is. -/
theorem drw_tail {r : Option Nat} {N : Nat} {G : Glob} {P : Program} {w0 : Bas} {w : World} {φ : Loc} {S : St} {a : Act} {kt : St → Prop} {Q : Exit → Act → World → Prop} {l : List Oper} {id m : Nat} (hG : GOk G w0) (hm : P.follows .mixedOrders = true) (hml : m < l.length) (hst : (l.take m).all (fun o => stb o.op) = true) (hB : drwB l m = true)
    (hs : SatC w0 φ S a.tmps w) (h : drwW G P l S.n S.nx S.own (l.take m) S.env kt) (ht : ∀ S' a' w' φ', kt S' → SatC w0 φ' S' a'.tmps w' → S'.n = S.n → a'.defers = a.defers → wpListIn (fw r) N P l.toArray Q (l.drop m) a' w') : (Code.region id l.toArray true).wpIn (fw r) N P Q a w := by
  have hst' : ∀ (j : Nat) (o : Oper), j + (l.drop m).length < l.length → l[j]? = some o → stb o.op = true := by
    intro j o hj ho
    rw [List.length_drop] at hj
    exact List.all_eq_true.1 hst o (List.mem_of_getElem? (by rw [List.getElem?_take_of_lt (show j < m by omega)]; exact ho))
  obtain ⟨res, _, r2, r3, r4, r5, E2, hE2, hk⟩ := drw_ext (l := l) (env0 := S.env) (Z := fun _ S => kt S) (k' := kt) (post := l.drop m) (fun S h => h) (.inr hst') (l.take m) 0 S.env [] rfl (Nat.zero_le _) (by simp) (fun j o hj => by omega) (fun t d hd => .inr ⟨fun j o hj => by omega, hd⟩) h
  have hpre : res.length = m := by
    rcases r4 with r4 | r4
    · have := congrArg List.length r4.1
      rw [List.length_drop, List.length_nil] at this; omega
    · rw [List.length_drop] at r4; omega
  rw [← hpre] at hB
  exact drw_fin hG hm hB hs r2 r5 hE2 fun a' w' φ' hs' hd => by rw [hpre]; exact ht _ a' w' φ' hk hs' rfl hd
#print axioms drw_ok2
end Go.Abs
