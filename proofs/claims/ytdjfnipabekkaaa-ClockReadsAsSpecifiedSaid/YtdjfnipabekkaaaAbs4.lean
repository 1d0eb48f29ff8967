/-
  AN ABSTRACT WALK, fourth text: contracts; an own block lent to a callee for reading; what is read out of memory.
-/
import Derived.Test.YtdjfnipabekkaaaAbs3
import Derived.Laws.BytesString
namespace Go.Abs
open Go.RowKit (Below)

/-! ### What follows from a reading -/
def wfS : D → Prop
  | .int k n => inR k n
  | .str s => s.length ≤ maxLen
  | .sl sz n cs | .slx sz n cs => n ≤ maxLen ∧ cs.length = n * sz
  | _ => True
/-- .. holds of each part. -/
def inside (Q : D → Prop) : D → Prop
  | .sl _ _ cs | .slx _ _ cs | .agg cs | .tup cs | .rop cs _ | .fn _ cs => ∀ c ∈ cs, Q c
  | _ => True
def wf1 (d : D) : Prop := wfS d ∧ inside wfS d
def wf2 (d : D) : Prop := wfS d ∧ inside wf1 d
def wf3 (d : D) : Prop := wfS d ∧ inside wf2 d

theorem wfS_of {w : World} {F : Nat → Prop} {v : Value} {d : D} (h : RepR w F v d) : wfS d := by
  cases h <;> simp only [wfS] <;> first | trivial | (constructor <;> assumption) | assumption | (refine ⟨?_, ?_⟩ <;> first | omega | simp [maxLen])

theorem lift_wf {w : World} {F : Nat → Prop} {Q : D → Prop} (hQ : ∀ v d, RepR w F v d → Q d) {v : Value} {d : D} (h : RepR w F v d) : inside Q d := by
  have arr : ∀ (vs : Array Value) (ds : List D), vs.size = ds.length → (∀ (i : Nat) (v : Value) (d : D), vs[i]? = some v → ds[i]? = some d → RepR w F v d) → ∀ c ∈ ds, Q c := by
    intro vs ds hl h c hc
    obtain ⟨i, hi, rfl⟩ := List.getElem_of_mem hc
    exact hQ vs[i] _ (h i _ _ (by simp [hl, hi]) (by simp [hi]))
  cases h with
  | any v => trivial
  | int a b => trivial
  | bool => trivial
  | str a b => trivial
  | nils => trivial
  | agg a b c => exact arr _ _ a c
  | tup a b => exact arr _ _ a b
  | sl0 => exact fun c hc => by simp at hc
  | sl g a b c d e f k => exact fun c hc => by obtain ⟨i, hi, rfl⟩ := List.getElem_of_mem hc; exact hQ _ _ (k i _ (by simp [hi]))
  | slx0 => exact fun c hc => by simp at hc
  | slx g a b c d e k => exact fun c hc => by obtain ⟨i, hi, rfl⟩ := List.getElem_of_mem hc; exact hQ _ _ (k i _ (by simp [hi]))
  | rop g a b k => exact fun c hc => by obtain ⟨i, hi, rfl⟩ := List.getElem_of_mem hc; exact hQ _ _ (k i _ (by simp [hi]))
  | fn a b => exact arr _ _ a b
  | yld => trivial
theorem wf1_of {w : World} {F : Nat → Prop} {v : Value} {d : D} (h : RepR w F v d) : wf1 d := ⟨wfS_of h, lift_wf (fun _ _ => wfS_of) h⟩
theorem wf2_of {w : World} {F : Nat → Prop} {v : Value} {d : D} (h : RepR w F v d) : wf2 d := ⟨wfS_of h, lift_wf (fun _ _ => wf1_of) h⟩
theorem wf3_of {w : World} {F : Nat → Prop} {v : Value} {d : D} (h : RepR w F v d) : wf3 d := ⟨wfS_of h, lift_wf (fun _ _ => wf2_of) h⟩

/-! ### Contracts -/
def FArgs (w : World) (F : Nat → Prop) (vs : List Value) (ds : List D) : Prop := vs.length = ds.length ∧ ∀ (i : Nat) (v : Value) (d : D), vs[i]? = some v → ds[i]? = some d → RepR w F v d
def Callable (P : Program) (f : FuncId) : Prop := ∃ fn : Func, P.funcs[f]? = some fn ∧ fn.body.isSome = true ∧ (fn.name == "runtime.NumGoroutine") = false

/-- Called with arguments that read as 'ds', function f returns what reads as 'd', and has turned nothing that was there. -/
def Fn (G : Glob) (P : Program) (f : FuncId) (ds : List D) (d : D) : Prop :=
  Callable P f ∧ ∀ (b0 : Bas) (vs : List Value), b0.G = G → (∀ b, ¬ b0.lent b) → FArgs b0.w (fun b => b0.base b ∧ b < b0.w.heap.size) vs ds →
    Calls P f vs.toArray b0.w fun e w' => ∃ v, e = .returned v ∧ RepR w' (fun b => b0.base b ∧ b < w'.heap.size) v d ∧ Below b0.w.heap.size b0.w w'

def OwnRow (B : Nat) (w : World) (F : Nat → Prop) (v : Value) (sz n : Nat) (cs : List D) : Prop :=
  cs.length = n * sz ∧ ((∃ p, v = .slice p 0 0 ∧ n = 0) ∨ ∃ b c arr T fz, v = .slice (some ⟨b, 0, none⟩) n c ∧ B ≤ b ∧ w.heap[b]? = some (.cells arr T fz) ∧ arr.size = c * sz ∧ n ≤ c ∧ c ≤ maxLen ∧
    (∀ o, o < arr.size → ¬ (fz.1 ≤ o ∧ o < fz.2)) ∧ ∀ (i : Nat) (v : Value) (d : D), arr[i]? = some v → cs[i]? = some d → RepR w (fun k => F k ∧ k ≠ b) v d ∧ v.oneCell' = true)

/-- .. what it returns is a slice in new memory, which the caller may append to. -/
def FnS (G : Glob) (P : Program) (f : FuncId) (ds : List D) (sz n : Nat) (cs : List D) : Prop :=
  Callable P f ∧ ∀ (b0 : Bas) (vs : List Value), b0.G = G → (∀ b, ¬ b0.lent b) → FArgs b0.w (fun b => b0.base b ∧ b < b0.w.heap.size) vs ds →
    Calls P f vs.toArray b0.w fun e w' => ∃ v, e = .returned v ∧ OwnRow b0.w.heap.size w' (fun b => b0.base b ∧ b < w'.heap.size) v sz n cs ∧ Below b0.w.heap.size b0.w w'

theorem OwnRow.rep {B : Nat} {w : World} {F : Nat → Prop} (hF : ∀ b, B ≤ b → b < w.heap.size → F b) {v : Value} {sz n : Nat} {cs : List D} (h : OwnRow B w F v sz n cs) : RepR w F v (.sl sz n cs) := by
  obtain ⟨hl, h | ⟨b, c, arr, T, fz, rfl, hB, hb, hs, hn, hc, _, hr⟩⟩ := h
  · obtain ⟨p, rfl, rfl⟩ := h
    have : cs = [] := List.eq_nil_of_length_eq_zero (by simpa using hl)
    subst this
    exact .sl0 (by simp [maxLen])
  · have hlt : ∀ j, j < n * sz → j < arr.size := fun j hj => by rw [hs]; exact Nat.lt_of_lt_of_le hj (Nat.mul_le_mul_right _ hn)
    have hbl : b < w.heap.size := (Array.getElem?_eq_some_iff.1 hb).1
    refine .sl (fun j => arr.getD j undef) rfl (hF b hB hbl) hn hc hl (fun j hj => ?_) (fun j d hd => ?_)
    · have h1 : arr[j]? = some (arr[j]'(hlt j hj)) := by simp [hlt j hj]
      obtain ⟨d, hd⟩ : ∃ d, cs[j]? = some d := ⟨cs[j]'(by omega), by simp⟩
      simp only [World.cell?, hb, Nat.zero_add, Option.isSome_none, Bool.false_eq_true, if_false, h1, Array.getD_eq_getD_getElem?, Option.getD_some, true_and]
      exact (hr j _ d h1 hd).2
    · have hj : j < n * sz := by have := (List.getElem?_eq_some_iff.1 hd).1; omega
      have h1 : arr[j]? = some (arr[j]'(hlt j hj)) := by simp [hlt j hj]
      simp only [Array.getD_eq_getD_getElem?, h1, Option.getD_some]
      exact (hr j _ d h1 hd).1.mono (fun _ _ => rfl) fun _ h => h.1

theorem FnS.fn {G : Glob} {P : Program} {f : FuncId} {ds : List D} {sz n : Nat} {cs : List D} (h : FnS G P f ds sz n cs) : Fn G P f ds (.sl sz n cs) :=
  ⟨h.1, fun b0 vs hG hL ha => (h.2 b0 vs hG hL ha).mono fun e w' ⟨v, he, ho, hb⟩ => ⟨v, he, ho.rep fun b h1 h2 => ⟨b0.new b h1, h2⟩, hb⟩⟩

/-! ### An own block, lent -/
/-- No own block is named. -/
def isP : D → Bool
  | .ptr _ _ | .osl _ _ _ | .osw _ _ _ _ | .oag _ | .ofn _ _ => false
  | _ => true
theorem Rep.pure {φ : Loc} {w : World} {F : Nat → Prop} {v : Value} {d : D} (h : Rep φ w F v d) (hp : isP d = true) : RepR w F v d := by
  cases h with
  | ro h => exact h
  | _ => simp [isP] at hp

/-- The blocks that a callee may read: the call's own ones too. -/
def FL (φ : Loc) (w : World) (b : Nat) : Prop := φ.base b ∧ b < w.heap.size
theorem FS_FL {φ : Loc} {own : List (Nat × List D)} {w : World} {b : Nat} (h : FSx φ own w b) : FL φ w b := ⟨h.3, h.1⟩
theorem own_FL {w0 : Bas} {w : World} {φ : Loc} {S : St} {tmps : Array Value} (hs : SatC w0 φ S tmps w) {id b : Nat} {c : List D} (hid : lk id S.own = some c) (hb : (φ id).1 = some b) : FL φ w b :=
  ⟨by rw [hs.base]; rcases (hs.own id c hid).2 b hb with h | h; exact w0.new _ h; exact (w0.lb _ h).1, (hs.own id c hid).1.lt hb⟩

def lkoW (id : Nat) : List (Nat × List D) → (List D → Prop) → Prop
  | [], _ => False
  | (s, d) :: r, k => if id = s then k d else lkoW id r k
theorem lkoW_cons (t s : Nat) (d : List D) (r : List (Nat × List D)) (k : List D → Prop) : lkoW t ((s, d) :: r) k = if t = s then k d else lkoW t r k := _root_.id rfl
theorem lkoW_ok {id : Nat} {own : List (Nat × List D)} {k : List D → Prop} (h : lkoW id own k) : ∃ c, lk id own = some c ∧ k c := by
  induction own with
  | nil => exact h.elim
  | cons p r ih =>
    obtain ⟨s, d⟩ := p
    rw [lkoW_cons] at h
    simp only [lk]
    split at h
    · rename_i e; exact ⟨d, by rw [if_pos e], h⟩
    · rename_i e; rw [if_neg e]; exact ih h

def allP (cs : List D) : Prop := ∀ c ∈ cs, isP c = true

/-- What a callee is handed, and whether an own block is lent with it. -/
def coeS (S : St) (d : D) (k : D → Bool → Prop) : Prop :=
  match d with
  | .ptr id off => lkoW id S.own fun c => allP c ∧ k (.rop c off) true
  | .osl id sz n => lkoW id S.own fun c => allP c ∧ c.length = n * sz ∧ k (.sl sz n c) true
  | .osw id off sz n => lkoW id S.own fun c => allP c ∧ off + n * sz ≤ c.length ∧ k (.sl sz n ((c.drop off).take (n * sz))) true
  | .oag _ | .ofn _ _ => False
  | d => k d false
def coeL (S : St) : List D → (List D → Bool → Prop) → Prop
  | [], k => k [] false
  | d :: r, k => coeS S d fun d' b => coeL S r fun r' b' => k (d' :: r') (b || b')
def coeW (S : St) (d : D) (k : D → Bool → Prop) : Prop :=
  match d with
  | .oag cs => coeL S cs fun cs' b => k (.agg cs') b
  | .ofn f cs => coeL S cs fun cs' b => k (.fn f cs') b
  | d => coeS S d k
def coeLW (S : St) : List D → (List D → Bool → Prop) → Prop
  | [], k => k [] false
  | d :: r, k => coeW S d fun d' b => coeLW S r fun r' b' => k (d' :: r') (b || b')

/-- The cells of an own block, as a reader sees them. -/
theorem own_cells {w0 : Bas} {w : World} {φ : Loc} {S : St} {tmps : Array Value} (hs : SatC w0 φ S tmps w) {id b : Nat} {c : List D} (hid : lk id S.own = some c) (hb : (φ id).1 = some b) :
    ∃ arr T fz, w.heap[b]? = some (.cells arr T fz) ∧ arr.size = (φ id).2 ∧ c.length ≤ arr.size ∧ (∀ o, o < arr.size → ¬ (fz.1 ≤ o ∧ o < fz.2)) ∧
      (∀ j, j < c.length → w.cell? ⟨b, j, none⟩ = some (arr.getD j undef)) ∧ ∀ (j : Nat) (d : D), c[j]? = some d → Rep φ w (FSx φ S.own w) (arr.getD j undef) d ∧ (arr.getD j undef).oneCell' = true := by
  have h := (hs.own id c hid).1
  unfold OwnOk at h
  rw [hb] at h
  obtain ⟨arr, T, fz, h1, h2, h3, h4, h5⟩ := h
  refine ⟨arr, T, fz, h1, h2, h4, h3, fun j hj => ?_, fun j d hd => ?_⟩
  · simp only [World.cell?, h1, Option.isSome_none, Bool.false_eq_true, if_false, Array.getD_eq_getD_getElem?]
    rw [show arr[j]? = some (arr[j]'(by omega)) by simp]
    simp
  · have hj : j < arr.size := by have := (List.getElem?_eq_some_iff.1 hd).1; omega
    have e : arr[j]? = some arr[j] := by simp [hj]
    simp only [Array.getD_eq_getD_getElem?, e, Option.getD_some]
    exact h5 j _ d e hd

/-- As a callee reads it. -/
def Lent (φ : Loc) (S : St) (w : World) (v : Value) (d : D) (b : Bool) : Prop := RepR w (FL φ w) v d ∧ (b = false → RepR w (FSx φ S.own w) v d)

theorem coeS_ok {w0 : Bas} {w : World} {φ : Loc} {S : St} {tmps : Array Value} (hs : SatC w0 φ S tmps w) {v : Value} {d : D} {k : D → Bool → Prop} (hr : Rep φ w (FSx φ S.own w) v d) (h : coeS S d k) :
    ∃ d' b, k d' b ∧ Lent φ S w v d' b := by
  cases d with
  | ptr id off =>
    obtain ⟨c, hc, hp, hk⟩ := lkoW_ok h
    cases hr with
    | ro hr => cases hr
    | ptr hb =>
      obtain ⟨arr, T, fz, h1, h2, h3, h4, h5, h6⟩ := own_cells hs hc hb
      refine ⟨_, _, hk, ?_, fun h => by cases h⟩
      have := RepR.rop (w := w) (F := FL φ w) (b := _) (base := 0) (off := off) (cs := c) (fun j => arr.getD j undef) (own_FL hs hc hb)
        (fun j hj => ⟨by rw [Nat.zero_add]; exact h5 j hj, by obtain ⟨d, hd⟩ : ∃ d, c[j]? = some d := ⟨c[j], by simp [hj]⟩; exact (h6 j d hd).2⟩)
        (fun j d hd => ((h6 j d hd).1.pure (hp d (List.mem_of_getElem? hd))).mono (fun _ _ => rfl) fun _ => FS_FL)
      simpa using this
  | osl id sz n =>
    obtain ⟨c, hc, hp, hl, hk⟩ := lkoW_ok h
    refine ⟨_, _, hk, ?_, fun h => by cases h⟩
    cases hr with
    | ro hr => cases hr
    | osl0 hb =>
      have : c = [] := List.eq_nil_of_length_eq_zero (by simpa using hl)
      subst this
      exact .sl0 (by simp [maxLen])
    | osl hb he hn hm =>
      obtain ⟨arr, T, fz, h1, h2, h3, h4, h5, h6⟩ := own_cells hs hc hb
      exact .sl (fun j => arr.getD j undef) rfl (own_FL hs hc hb) hn hm hl
        (fun j hj => ⟨by rw [Nat.zero_add]; exact h5 j (by omega), by obtain ⟨d, hd⟩ : ∃ d, c[j]? = some d := ⟨c[j]'(by omega), by simp⟩; exact (h6 j d hd).2⟩)
        (fun j d hd => ((h6 j d hd).1.pure (hp d (List.mem_of_getElem? hd))).mono (fun _ _ => rfl) fun _ => FS_FL)
  | osw id off sz n =>
    obtain ⟨c, hc, hp, hl, hk⟩ := lkoW_ok h
    refine ⟨_, _, hk, ?_, fun h => by cases h⟩
    cases hr with
    | ro hr => cases hr
    | osw0 hc => rw [Nat.zero_mul, List.take_zero]; exact .sl0 hc
    | osw hb hn hm hsz =>
      obtain ⟨arr, T, fz, h1, h2, h3, h4, h5, h6⟩ := own_cells hs hc hb
      refine .sl (fun j => arr.getD (off + j) undef) rfl (own_FL hs hc hb) hn hm (by simp; omega)
        (fun j hj => ⟨h5 (off + j) (by omega), by obtain ⟨d, hd⟩ : ∃ d, c[off + j]? = some d := ⟨c[off + j]'(by omega), by simp⟩; exact (h6 _ d hd).2⟩)
        (fun j d hd => ?_)
      simp only [List.getElem?_take, List.getElem?_drop] at hd
      split at hd
      · exact ((h6 _ d hd).1.pure (hp d (List.mem_of_getElem? hd))).mono (fun _ _ => rfl) fun _ => FS_FL
      · cases hd
  | oag cs => exact h.elim
  | ofn f cs => exact h.elim
  | _ => exact ⟨_, _, h, (hr.pure rfl).mono (fun _ _ => rfl) fun _ => FS_FL, fun _ => hr.pure rfl⟩

theorem coeL_ok {w0 : Bas} {w : World} {φ : Loc} {S : St} {tmps : Array Value} (hs : SatC w0 φ S tmps w) : ∀ {ds : List D} {vs : List Value} {k : List D → Bool → Prop}, vs.length = ds.length →
    (∀ (i : Nat) (v : Value) (d : D), vs[i]? = some v → ds[i]? = some d → Rep φ w (FSx φ S.own w) v d) → coeL S ds k → ∃ ds' b, k ds' b ∧ FArgs w (FL φ w) vs ds' ∧ (b = false → FArgs w (FSx φ S.own w) vs ds')
  | [], vs, k, hl, hr, h => by
    have : vs = [] := List.eq_nil_of_length_eq_zero (by simpa using hl)
    subst this
    exact ⟨[], false, h, ⟨rfl, fun i v d hv => by simp at hv⟩, fun _ => ⟨rfl, fun i v d hv => by simp at hv⟩⟩
  | d :: r, v :: vs, k, hl, hr, h => by
    obtain ⟨d', b, h1, hd, hd2⟩ := coeS_ok hs (hr 0 v d rfl rfl) h
    obtain ⟨r', b', h2, ⟨hl', hr'⟩, hr2⟩ := coeL_ok hs (vs := vs) (by simpa using hl) (fun i v d hv hd => hr (i + 1) v d (by simpa using hv) (by simpa using hd)) h1
    refine ⟨d' :: r', _, h2, ⟨by simp [hl'], fun i v2 d2 hv hd2 => ?_⟩, fun hb => ⟨by simp [hl'], fun i v2 d2 hv hd2' => ?_⟩⟩
    · cases i with
      | zero => simp at hv hd2; subst hv; subst hd2; exact hd
      | succ i => exact hr' i v2 d2 (by simpa using hv) (by simpa using hd2)
    · simp only [Bool.or_eq_false_iff] at hb
      cases i with
      | zero => simp at hv hd2'; subst hv; subst hd2'; exact hd2 hb.1
      | succ i => exact (hr2 hb.2).2 i v2 d2 (by simpa using hv) (by simpa using hd2')

theorem coeW_ok {w0 : Bas} {w : World} {φ : Loc} {S : St} {tmps : Array Value} (hs : SatC w0 φ S tmps w) {v : Value} {d : D} {k : D → Bool → Prop} (hr : Rep φ w (FSx φ S.own w) v d) (h : coeW S d k) :
    ∃ d' b, k d' b ∧ Lent φ S w v d' b := by
  cases d with
  | oag cs =>
    cases hr with
    | ro hr => cases hr
    | @oag vs _ a b c =>
      obtain ⟨ds', bb, hk, ⟨hl, hr⟩, hr2⟩ := coeL_ok hs (vs := vs.toList) (by simpa using a) (fun i v d hv hd => c i v d (by simpa using hv) hd) h
      exact ⟨_, _, hk, .agg (by simpa using hl) b fun i v d hv hd => hr i v d (by simpa using hv) hd, fun hb => .agg (by simpa using hl) b fun i v d hv hd => (hr2 hb).2 i v d (by simpa using hv) hd⟩
  | ofn f cs =>
    cases hr with
    | ro hr => cases hr
    | @ofn _ vs _ a c =>
      obtain ⟨ds', bb, hk, ⟨hl, hr⟩, hr2⟩ := coeL_ok hs (vs := vs.toList) (by simpa using a) (fun i v d hv hd => c i v d (by simpa using hv) hd) h
      exact ⟨_, _, hk, .fn (by simpa using hl) fun i v d hv hd => hr i v d (by simpa using hv) hd, fun hb => .fn (by simpa using hl) fun i v d hv hd => (hr2 hb).2 i v d (by simpa using hv) hd⟩
  | _ => exact coeS_ok hs hr h

theorem coeLW_ok {w0 : Bas} {w : World} {φ : Loc} {S : St} {tmps : Array Value} (hs : SatC w0 φ S tmps w) : ∀ {ds : List D} {vs : List Value} {k : List D → Bool → Prop}, vs.length = ds.length →
    (∀ (i : Nat) (v : Value) (d : D), vs[i]? = some v → ds[i]? = some d → Rep φ w (FSx φ S.own w) v d) → coeLW S ds k → ∃ ds' b, k ds' b ∧ FArgs w (FL φ w) vs ds' ∧ (b = false → FArgs w (FSx φ S.own w) vs ds')
  | [], vs, k, hl, hr, h => by
    have : vs = [] := List.eq_nil_of_length_eq_zero (by simpa using hl)
    subst this
    exact ⟨[], false, h, ⟨rfl, fun i v d hv => by simp at hv⟩, fun _ => ⟨rfl, fun i v d hv => by simp at hv⟩⟩
  | d :: r, v :: vs, k, hl, hr, h => by
    obtain ⟨d', b, h1, hd, hd2⟩ := coeW_ok hs (hr 0 v d rfl rfl) h
    obtain ⟨r', b', h2, ⟨hl', hr'⟩, hr2⟩ := coeLW_ok hs (vs := vs) (by simpa using hl) (fun i v d hv hd => hr (i + 1) v d (by simpa using hv) (by simpa using hd)) h1
    refine ⟨d' :: r', _, h2, ⟨by simp [hl'], fun i v2 d2 hv hd2 => ?_⟩, fun hb => ⟨by simp [hl'], fun i v2 d2 hv hd2' => ?_⟩⟩
    · cases i with
      | zero => simp at hv hd2; subst hv; subst hd2; exact hd
      | succ i => exact hr' i v2 d2 (by simpa using hv) (by simpa using hd2)
    · simp only [Bool.or_eq_false_iff] at hb
      cases i with
      | zero => simp at hv hd2'; subst hv; subst hd2'; exact hd2 hb.1
      | succ i => exact (hr2 hb.2).2 i v2 d2 (by simpa using hv) (by simpa using hd2')

#print axioms coeLW_ok
end Go.Abs
