/-
  AN ABSTRACT WALK, fourth text: contracts; an own block lent to a callee for reading; what is read out of memory.
-/
import Derived.Test.YtccipobbdohdpaaDoorAbs3
import Derived.Laws.BytesString
import Derived.Lib.ConvBytes
section
namespace Go.Abs
open Go.RowKit (Below)

/-! ### What follows from a reading -/
def wfS : D → Prop
  | .int k n => inR k n
  | .str s => s.length ≤ maxLen
  | .sl sz n cs | .slx sz n cs => n ≤ maxLen ∧ cs.length = n * sz
  | _ => True
/-- .. holds of each part. -/
def inside (Q : D → Prop) : D → Prop
  | .sl _ _ cs | .slx _ _ cs | .agg cs | .tup cs | .rop cs _ | .fn _ cs => ∀ c ∈ cs, Q c
  | _ => True
def wf1 (d : D) : Prop := wfS d ∧ inside wfS d
def wf2 (d : D) : Prop := wfS d ∧ inside wf1 d
def wf3 (d : D) : Prop := wfS d ∧ inside wf2 d

theorem wfS_of {w : World} {F : Nat → Prop} {v : Value} {d : D} (h : RepR w F v d) : wfS d := by
  cases h <;> simp only [wfS] <;> first | trivial | (constructor <;> assumption) | assumption | (refine ⟨?_, ?_⟩ <;> first | omega | simp [maxLen])

theorem lift_wf {w : World} {F : Nat → Prop} {Q : D → Prop} (hQ : ∀ v d, RepR w F v d → Q d) {v : Value} {d : D} (h : RepR w F v d) : inside Q d := by
  have arr : ∀ (vs : Array Value) (ds : List D), vs.size = ds.length → (∀ (i : Nat) (v : Value) (d : D), vs[i]? = some v → ds[i]? = some d → RepR w F v d) → ∀ c ∈ ds, Q c := by
    intro vs ds hl h c hc
    obtain ⟨i, hi, rfl⟩ := List.getElem_of_mem hc
    exact hQ vs[i] _ (h i _ _ (by simp [hl, hi]) (by simp [hi]))
  cases h with
  | any v => trivial
  | int a b => trivial
  | bool => trivial
  | str a b => trivial
  | nils => trivial
  | agg a b c => exact arr _ _ a c
  | tup a b => exact arr _ _ a b
  | sl0 => exact fun c hc => by simp at hc
  | sl g a b c d e f k => exact fun c hc => by obtain ⟨i, hi, rfl⟩ := List.getElem_of_mem hc; exact hQ _ _ (k i _ (by simp [hi]))
  | slx0 => exact fun c hc => by simp at hc
  | slx g a b c d e k => exact fun c hc => by obtain ⟨i, hi, rfl⟩ := List.getElem_of_mem hc; exact hQ _ _ (k i _ (by simp [hi]))
  | rop g a b k => exact fun c hc => by obtain ⟨i, hi, rfl⟩ := List.getElem_of_mem hc; exact hQ _ _ (k i _ (by simp [hi]))
  | fn a b => exact arr _ _ a b
  | yld => trivial
theorem wf1_of {w : World} {F : Nat → Prop} {v : Value} {d : D} (h : RepR w F v d) : wf1 d := ⟨wfS_of h, lift_wf (fun _ _ => wfS_of) h⟩
theorem wf2_of {w : World} {F : Nat → Prop} {v : Value} {d : D} (h : RepR w F v d) : wf2 d := ⟨wfS_of h, lift_wf (fun _ _ => wf1_of) h⟩
theorem wf3_of {w : World} {F : Nat → Prop} {v : Value} {d : D} (h : RepR w F v d) : wf3 d := ⟨wfS_of h, lift_wf (fun _ _ => wf2_of) h⟩

/-! ### Contracts -/
def FArgs (w : World) (F : Nat → Prop) (vs : List Value) (ds : List D) : Prop := vs.length = ds.length ∧ ∀ (i : Nat) (v : Value) (d : D), vs[i]? = some v → ds[i]? = some d → RepR w F v d
def Callable (P : Program) (f : FuncId) : Prop := ∃ fn : Func, P.funcs[f]? = some fn ∧ fn.body.isSome = true ∧ (fn.name == "runtime.NumGoroutine") = false

/-- Called with arguments that read as 'ds', function f returns what reads as 'd', and has turned nothing that was there. -/
def Fn (G : Glob) (P : Program) (f : FuncId) (ds : List D) (d : D) : Prop :=
  Callable P f ∧ ∀ (b0 : Bas) (vs : List Value), b0.G = G → (∀ b, ¬ b0.lent b) → FArgs b0.w (fun b => b0.base b ∧ b < b0.w.heap.size) vs ds →
    Calls P f vs.toArray b0.w fun e w' => ∃ v, e = .returned v ∧ RepR w' (fun b => b0.base b ∧ b < w'.heap.size) v d ∧ Below b0.w.heap.size b0.w w'

def OwnRow (B : Nat) (w : World) (F : Nat → Prop) (v : Value) (sz n : Nat) (cs : List D) : Prop :=
  cs.length = n * sz ∧ ((∃ p, v = .slice p 0 0 ∧ n = 0) ∨ ∃ b c arr T fz, v = .slice (some ⟨b, 0, none⟩) n c ∧ B ≤ b ∧ w.heap[b]? = some (.cells arr T fz) ∧ arr.size = c * sz ∧ n ≤ c ∧ c ≤ maxLen ∧
    (∀ o, o < arr.size → ¬ (fz.1 ≤ o ∧ o < fz.2)) ∧ ∀ (i : Nat) (v : Value) (d : D), arr[i]? = some v → cs[i]? = some d → RepR w (fun k => F k ∧ k ≠ b) v d ∧ v.oneCell' = true)

/-- .. what it returns is a slice in new memory, which the caller may append to. -/
def FnS (G : Glob) (P : Program) (f : FuncId) (ds : List D) (sz n : Nat) (cs : List D) : Prop :=
  Callable P f ∧ ∀ (b0 : Bas) (vs : List Value), b0.G = G → (∀ b, ¬ b0.lent b) → FArgs b0.w (fun b => b0.base b ∧ b < b0.w.heap.size) vs ds →
    Calls P f vs.toArray b0.w fun e w' => ∃ v, e = .returned v ∧ OwnRow b0.w.heap.size w' (fun b => b0.base b ∧ b < w'.heap.size) v sz n cs ∧ Below b0.w.heap.size b0.w w'

theorem OwnRow.rep {B : Nat} {w : World} {F : Nat → Prop} (hF : ∀ b, B ≤ b → b < w.heap.size → F b) {v : Value} {sz n : Nat} {cs : List D} (h : OwnRow B w F v sz n cs) : RepR w F v (.sl sz n cs) := by
  obtain ⟨hl, h | ⟨b, c, arr, T, fz, rfl, hB, hb, hs, hn, hc, _, hr⟩⟩ := h
  · obtain ⟨p, rfl, rfl⟩ := h
    have : cs = [] := List.eq_nil_of_length_eq_zero (by simpa using hl)
    subst this
    exact .sl0 (by simp [maxLen])
  · have hlt : ∀ j, j < n * sz → j < arr.size := fun j hj => by rw [hs]; exact Nat.lt_of_lt_of_le hj (Nat.mul_le_mul_right _ hn)
    have hbl : b < w.heap.size := (Array.getElem?_eq_some_iff.1 hb).1
    refine .sl (fun j => arr.getD j undef) rfl (hF b hB hbl) hn hc hl (fun j hj => ?_) (fun j d hd => ?_)
    · have h1 : arr[j]? = some (arr[j]'(hlt j hj)) := by simp [hlt j hj]
      obtain ⟨d, hd⟩ : ∃ d, cs[j]? = some d := ⟨cs[j]'(by omega), by simp⟩
      simp only [World.cell?, hb, Nat.zero_add, Option.isSome_none, Bool.false_eq_true, if_false, h1, Array.getD_eq_getD_getElem?, Option.getD_some, true_and]
      exact (hr j _ d h1 hd).2
    · have hj : j < n * sz := by have := (List.getElem?_eq_some_iff.1 hd).1; omega
      have h1 : arr[j]? = some (arr[j]'(hlt j hj)) := by simp [hlt j hj]
      simp only [Array.getD_eq_getD_getElem?, h1, Option.getD_some]
      exact (hr j _ d h1 hd).1.mono (fun _ _ => rfl) fun _ h => h.1

theorem FnS.fn {G : Glob} {P : Program} {f : FuncId} {ds : List D} {sz n : Nat} {cs : List D} (h : FnS G P f ds sz n cs) : Fn G P f ds (.sl sz n cs) :=
  ⟨h.1, fun b0 vs hG hL ha => (h.2 b0 vs hG hL ha).mono fun e w' ⟨v, he, ho, hb⟩ => ⟨v, he, ho.rep fun b h1 h2 => ⟨b0.new b h1, h2⟩, hb⟩⟩

/-! ### An own block, lent -/
/-- No own block is named. -/
def isP : D → Bool
  | .ptr _ _ | .osl _ _ _ | .osw _ _ _ _ | .oag _ | .ofn _ _ => false
  | _ => true
theorem Rep.pure {φ : Loc} {w : World} {F : Nat → Prop} {v : Value} {d : D} (h : Rep φ w F v d) (hp : isP d = true) : RepR w F v d := by
  cases h with
  | ro h => exact h
  | _ => simp [isP] at hp

/-- The blocks that a callee may read: the call's own ones too. -/
def FL (φ : Loc) (w : World) (b : Nat) : Prop := φ.base b ∧ b < w.heap.size
theorem FS_FL {φ : Loc} {own : List (Nat × List D)} {w : World} {b : Nat} (h : FSx φ own w b) : FL φ w b := ⟨h.3, h.1⟩
theorem own_FL {w0 : Bas} {w : World} {φ : Loc} {S : St} {tmps : Array Value} (hs : SatC w0 φ S tmps w) {id b : Nat} {c : List D} (hid : lk id S.own = some c) (hb : (φ id).1 = some b) : FL φ w b :=
  ⟨by rw [hs.base]; rcases (hs.own id c hid).2 b hb with h | h; exact w0.new _ h; exact (w0.lb _ h).1, (hs.own id c hid).1.lt hb⟩

def lkoW (id : Nat) : List (Nat × List D) → (List D → Prop) → Prop
  | [], _ => False
  | (s, d) :: r, k => if id = s then k d else lkoW id r k
theorem lkoW_cons (t s : Nat) (d : List D) (r : List (Nat × List D)) (k : List D → Prop) : lkoW t ((s, d) :: r) k = if t = s then k d else lkoW t r k := _root_.id rfl
theorem lkoW_ok {id : Nat} {own : List (Nat × List D)} {k : List D → Prop} (h : lkoW id own k) : ∃ c, lk id own = some c ∧ k c := by
  induction own with
  | nil => exact h.elim
  | cons p r ih =>
    obtain ⟨s, d⟩ := p
    rw [lkoW_cons] at h
    simp only [lk]
    split at h
    · rename_i e; exact ⟨d, by rw [if_pos e], h⟩
    · rename_i e; rw [if_neg e]; exact ih h

def allP (cs : List D) : Prop := ∀ c ∈ cs, isP c = true

/-- What a callee is handed, and whether an own block is lent with it. -/
def coeS (S : St) (d : D) (k : D → Bool → Prop) : Prop :=
  match d with
  | .ptr id off => lkoW id S.own fun c => allP c ∧ k (.rop c off) true
  | .osl id sz n => lkoW id S.own fun c => allP c ∧ c.length = n * sz ∧ k (.sl sz n c) true
  | .osw id off sz n => lkoW id S.own fun c => allP c ∧ off + n * sz ≤ c.length ∧ k (.sl sz n ((c.drop off).take (n * sz))) true
  | .oag _ | .ofn _ _ => False
  | d => k d false
def coeL (S : St) : List D → (List D → Bool → Prop) → Prop
  | [], k => k [] false
  | d :: r, k => coeS S d fun d' b => coeL S r fun r' b' => k (d' :: r') (b || b')
def coeW (S : St) (d : D) (k : D → Bool → Prop) : Prop :=
  match d with
  | .oag cs => coeL S cs fun cs' b => k (.agg cs') b
  | .ofn f cs => coeL S cs fun cs' b => k (.fn f cs') b
  | d => coeS S d k
def coeLW (S : St) : List D → (List D → Bool → Prop) → Prop
  | [], k => k [] false
  | d :: r, k => coeW S d fun d' b => coeLW S r fun r' b' => k (d' :: r') (b || b')

/-- The cells of an own block, as a reader sees them. -/
theorem own_cells {w0 : Bas} {w : World} {φ : Loc} {S : St} {tmps : Array Value} (hs : SatC w0 φ S tmps w) {id b : Nat} {c : List D} (hid : lk id S.own = some c) (hb : (φ id).1 = some b) :
    ∃ arr T fz, w.heap[b]? = some (.cells arr T fz) ∧ arr.size = (φ id).2 ∧ c.length ≤ arr.size ∧ (∀ o, o < arr.size → ¬ (fz.1 ≤ o ∧ o < fz.2)) ∧
      (∀ j, j < c.length → w.cell? ⟨b, j, none⟩ = some (arr.getD j undef)) ∧ ∀ (j : Nat) (d : D), c[j]? = some d → Rep φ w (FSx φ S.own w) (arr.getD j undef) d ∧ (arr.getD j undef).oneCell' = true := by
  have h := (hs.own id c hid).1
  unfold OwnOk at h
  rw [hb] at h
  obtain ⟨arr, T, fz, h1, h2, h3, h4, h5⟩ := h
  refine ⟨arr, T, fz, h1, h2, h4, h3, fun j hj => ?_, fun j d hd => ?_⟩
  · simp only [World.cell?, h1, Option.isSome_none, Bool.false_eq_true, if_false, Array.getD_eq_getD_getElem?]
    rw [show arr[j]? = some (arr[j]'(by omega)) by simp]
    simp
  · have hj : j < arr.size := by have := (List.getElem?_eq_some_iff.1 hd).1; omega
    have e : arr[j]? = some arr[j] := by simp [hj]
    simp only [Array.getD_eq_getD_getElem?, e, Option.getD_some]
    exact h5 j _ d e hd

/-- As a callee reads it. -/
def Lent (φ : Loc) (S : St) (w : World) (v : Value) (d : D) (b : Bool) : Prop := RepR w (FL φ w) v d ∧ (b = false → RepR w (FSx φ S.own w) v d)

theorem coeS_ok {w0 : Bas} {w : World} {φ : Loc} {S : St} {tmps : Array Value} (hs : SatC w0 φ S tmps w) {v : Value} {d : D} {k : D → Bool → Prop} (hr : Rep φ w (FSx φ S.own w) v d) (h : coeS S d k) :
    ∃ d' b, k d' b ∧ Lent φ S w v d' b := by
  cases d with
  | ptr id off =>
    obtain ⟨c, hc, hp, hk⟩ := lkoW_ok h
    cases hr with
    | ro hr => cases hr
    | ptr hb =>
      obtain ⟨arr, T, fz, h1, h2, h3, h4, h5, h6⟩ := own_cells hs hc hb
      refine ⟨_, _, hk, ?_, fun h => by cases h⟩
      have := RepR.rop (w := w) (F := FL φ w) (b := _) (base := 0) (off := off) (cs := c) (fun j => arr.getD j undef) (own_FL hs hc hb)
        (fun j hj => ⟨by rw [Nat.zero_add]; exact h5 j hj, by obtain ⟨d, hd⟩ : ∃ d, c[j]? = some d := ⟨c[j], by simp [hj]⟩; exact (h6 j d hd).2⟩)
        (fun j d hd => ((h6 j d hd).1.pure (hp d (List.mem_of_getElem? hd))).mono (fun _ _ => rfl) fun _ => FS_FL)
      simpa using this
  | osl id sz n =>
    obtain ⟨c, hc, hp, hl, hk⟩ := lkoW_ok h
    refine ⟨_, _, hk, ?_, fun h => by cases h⟩
    cases hr with
    | ro hr => cases hr
    | osl0 hb =>
      have : c = [] := List.eq_nil_of_length_eq_zero (by simpa using hl)
      subst this
      exact .sl0 (by simp [maxLen])
    | osl hb he hn hm =>
      obtain ⟨arr, T, fz, h1, h2, h3, h4, h5, h6⟩ := own_cells hs hc hb
      exact .sl (fun j => arr.getD j undef) rfl (own_FL hs hc hb) hn hm hl
        (fun j hj => ⟨by rw [Nat.zero_add]; exact h5 j (by omega), by obtain ⟨d, hd⟩ : ∃ d, c[j]? = some d := ⟨c[j]'(by omega), by simp⟩; exact (h6 j d hd).2⟩)
        (fun j d hd => ((h6 j d hd).1.pure (hp d (List.mem_of_getElem? hd))).mono (fun _ _ => rfl) fun _ => FS_FL)
  | osw id off sz n =>
    obtain ⟨c, hc, hp, hl, hk⟩ := lkoW_ok h
    refine ⟨_, _, hk, ?_, fun h => by cases h⟩
    cases hr with
    | ro hr => cases hr
    | osw0 hc => rw [Nat.zero_mul, List.take_zero]; exact .sl0 hc
    | osw hb hn hm hsz =>
      obtain ⟨arr, T, fz, h1, h2, h3, h4, h5, h6⟩ := own_cells hs hc hb
      refine .sl (fun j => arr.getD (off + j) undef) rfl (own_FL hs hc hb) hn hm (by simp; omega)
        (fun j hj => ⟨h5 (off + j) (by omega), by obtain ⟨d, hd⟩ : ∃ d, c[off + j]? = some d := ⟨c[off + j]'(by omega), by simp⟩; exact (h6 _ d hd).2⟩)
        (fun j d hd => ?_)
      simp only [List.getElem?_take, List.getElem?_drop] at hd
      split at hd
      · exact ((h6 _ d hd).1.pure (hp d (List.mem_of_getElem? hd))).mono (fun _ _ => rfl) fun _ => FS_FL
      · cases hd
  | oag cs => exact h.elim
  | ofn f cs => exact h.elim
  | _ => exact ⟨_, _, h, (hr.pure rfl).mono (fun _ _ => rfl) fun _ => FS_FL, fun _ => hr.pure rfl⟩

theorem coeL_ok {w0 : Bas} {w : World} {φ : Loc} {S : St} {tmps : Array Value} (hs : SatC w0 φ S tmps w) : ∀ {ds : List D} {vs : List Value} {k : List D → Bool → Prop}, vs.length = ds.length →
    (∀ (i : Nat) (v : Value) (d : D), vs[i]? = some v → ds[i]? = some d → Rep φ w (FSx φ S.own w) v d) → coeL S ds k → ∃ ds' b, k ds' b ∧ FArgs w (FL φ w) vs ds' ∧ (b = false → FArgs w (FSx φ S.own w) vs ds')
  | [], vs, k, hl, hr, h => by
    have : vs = [] := List.eq_nil_of_length_eq_zero (by simpa using hl)
    subst this
    exact ⟨[], false, h, ⟨rfl, fun i v d hv => by simp at hv⟩, fun _ => ⟨rfl, fun i v d hv => by simp at hv⟩⟩
  | d :: r, v :: vs, k, hl, hr, h => by
    obtain ⟨d', b, h1, hd, hd2⟩ := coeS_ok hs (hr 0 v d rfl rfl) h
    obtain ⟨r', b', h2, ⟨hl', hr'⟩, hr2⟩ := coeL_ok hs (vs := vs) (by simpa using hl) (fun i v d hv hd => hr (i + 1) v d (by simpa using hv) (by simpa using hd)) h1
    refine ⟨d' :: r', _, h2, ⟨by simp [hl'], fun i v2 d2 hv hd2 => ?_⟩, fun hb => ⟨by simp [hl'], fun i v2 d2 hv hd2' => ?_⟩⟩
    · cases i with
      | zero => simp at hv hd2; subst hv; subst hd2; exact hd
      | succ i => exact hr' i v2 d2 (by simpa using hv) (by simpa using hd2)
    · simp only [Bool.or_eq_false_iff] at hb
      cases i with
      | zero => simp at hv hd2'; subst hv; subst hd2'; exact hd2 hb.1
      | succ i => exact (hr2 hb.2).2 i v2 d2 (by simpa using hv) (by simpa using hd2')

theorem coeW_ok {w0 : Bas} {w : World} {φ : Loc} {S : St} {tmps : Array Value} (hs : SatC w0 φ S tmps w) {v : Value} {d : D} {k : D → Bool → Prop} (hr : Rep φ w (FSx φ S.own w) v d) (h : coeW S d k) :
    ∃ d' b, k d' b ∧ Lent φ S w v d' b := by
  cases d with
  | oag cs =>
    cases hr with
    | ro hr => cases hr
    | @oag vs _ a b c =>
      obtain ⟨ds', bb, hk, ⟨hl, hr⟩, hr2⟩ := coeL_ok hs (vs := vs.toList) (by simpa using a) (fun i v d hv hd => c i v d (by simpa using hv) hd) h
      exact ⟨_, _, hk, .agg (by simpa using hl) b fun i v d hv hd => hr i v d (by simpa using hv) hd, fun hb => .agg (by simpa using hl) b fun i v d hv hd => (hr2 hb).2 i v d (by simpa using hv) hd⟩
  | ofn f cs =>
    cases hr with
    | ro hr => cases hr
    | @ofn _ vs _ a c =>
      obtain ⟨ds', bb, hk, ⟨hl, hr⟩, hr2⟩ := coeL_ok hs (vs := vs.toList) (by simpa using a) (fun i v d hv hd => c i v d (by simpa using hv) hd) h
      exact ⟨_, _, hk, .fn (by simpa using hl) fun i v d hv hd => hr i v d (by simpa using hv) hd, fun hb => .fn (by simpa using hl) fun i v d hv hd => (hr2 hb).2 i v d (by simpa using hv) hd⟩
  | _ => exact coeS_ok hs hr h

theorem coeLW_ok {w0 : Bas} {w : World} {φ : Loc} {S : St} {tmps : Array Value} (hs : SatC w0 φ S tmps w) : ∀ {ds : List D} {vs : List Value} {k : List D → Bool → Prop}, vs.length = ds.length →
    (∀ (i : Nat) (v : Value) (d : D), vs[i]? = some v → ds[i]? = some d → Rep φ w (FSx φ S.own w) v d) → coeLW S ds k → ∃ ds' b, k ds' b ∧ FArgs w (FL φ w) vs ds' ∧ (b = false → FArgs w (FSx φ S.own w) vs ds')
  | [], vs, k, hl, hr, h => by
    have : vs = [] := List.eq_nil_of_length_eq_zero (by simpa using hl)
    subst this
    exact ⟨[], false, h, ⟨rfl, fun i v d hv => by simp at hv⟩, fun _ => ⟨rfl, fun i v d hv => by simp at hv⟩⟩
  | d :: r, v :: vs, k, hl, hr, h => by
    obtain ⟨d', b, h1, hd, hd2⟩ := coeW_ok hs (hr 0 v d rfl rfl) h
    obtain ⟨r', b', h2, ⟨hl', hr'⟩, hr2⟩ := coeLW_ok hs (vs := vs) (by simpa using hl) (fun i v d hv hd => hr (i + 1) v d (by simpa using hv) (by simpa using hd)) h1
    refine ⟨d' :: r', _, h2, ⟨by simp [hl'], fun i v2 d2 hv hd2 => ?_⟩, fun hb => ⟨by simp [hl'], fun i v2 d2 hv hd2' => ?_⟩⟩
    · cases i with
      | zero => simp at hv hd2; subst hv; subst hd2; exact hd
      | succ i => exact hr' i v2 d2 (by simpa using hv) (by simpa using hd2)
    · simp only [Bool.or_eq_false_iff] at hb
      cases i with
      | zero => simp at hv hd2'; subst hv; subst hd2'; exact hd2 hb.1
      | succ i => exact (hr2 hb.2).2 i v2 d2 (by simpa using hv) (by simpa using hd2')

#print axioms coeLW_ok
end Go.Abs
end
section
namespace Go.Abs
open Go.RowKit (Below)

/-! ### Reading a list of cells -/
def nthW (cs : List D) (i : Nat) (k : D → Prop) : Prop := ∃ h : i < cs.length, k cs[i]
theorem nthW_cons (d : D) (r : List D) (i : Nat) (k : D → Prop) : nthW (d :: r) i k = if i = 0 then k d else nthW r (i - 1) k := by
  unfold nthW
  cases i with
  | zero => simp
  | succ i => simp
theorem nthW_map {α : Type} (f : α → D) (xs : List α) (i : Nat) (k : D → Prop) : nthW (xs.map f) i k = ∃ h : i < xs.length, k (f xs[i]) := by
  unfold nthW; simp
theorem nthW_ok {cs : List D} {i : Nat} {k : D → Prop} (h : nthW cs i k) : ∃ d, cs[i]? = some d ∧ k d := ⟨_, by simp [h.1], h.2⟩

def rdW (ag : Bool) (sz : Nat) (cs : List D) (off : Nat) (mk : List D → D) (k : D → Prop) : Prop :=
  match ag with
  | true => off + sz ≤ cs.length ∧ k (mk ((cs.drop off).take sz))
  | false => nthW cs off k
def loadW (S : St) (p : D) (ag : Bool) (sz : Nat) (k : D → Prop) : Prop :=
  match p with
  | .rop cs off => rdW ag sz cs off .agg k
  | .ptr id off => lkoW id S.own fun c => rdW ag sz c off .oag k
  | _ => False
theorem loadW_rop (S : St) (cs : List D) (off : Nat) (ag : Bool) (sz : Nat) (k : D → Prop) : loadW S (.rop cs off) ag sz k = rdW ag sz cs off .agg k := _root_.id rfl
theorem loadW_ptr (n nx : Nat) (env : List (Nat × D)) (own : List (Nat × List D)) (id off : Nat) (ag : Bool) (sz : Nat) (k : D → Prop) : loadW ⟨n, nx, env, own⟩ (.ptr id off) ag sz k = lkoW id own fun c => rdW ag sz c off .oag k := _root_.id rfl

theorem addr_add (b o n : Nat) : (⟨b, o, none⟩ : Addr).add n = ⟨b, o + n, none⟩ := by unfold Addr.add; split <;> simp_all
theorem addr_add' {a : Addr} (h : a.spot = none) (n : Nat) : a.add n = ⟨a.block, a.off + n, none⟩ := by
  obtain ⟨b, o, s⟩ := a; simp only at h; subst h; exact addr_add b o n

theorem run_load_cell {P : Program} {w : World} {a : Addr} {v : Value} (h : w.cell? a = some v) : (load a).run P w = .ok v w := by
  rw [run_load, h]

/-- A variable of one cell, of several: as the machine loads it. -/
theorem run_loadVar {P : Program} {w : World} {t : TypeId} {i : TypeInfo} {ag : Bool} {b o : Nat} (hag : isAg (tyOf P t) = some ag) (hi : P.info? t = some i) (f : Nat → Value)
    (h : ∀ j, j < (if ag = true then i.size else 1) → w.cell? ⟨b, o + j, none⟩ = some (f j)) :
    (loadVar t ⟨b, o, none⟩).run P w = .ok (if ag = true then .agg ((List.range i.size).map f).toArray else f 0) w := by
  unfold loadVar
  rw [Sem.run_bind, run_isAgg hag, Result.andThen_ok]
  cases ag with
  | true =>
    have hl := run_loadCells (P := P) w ⟨b, o, none⟩ i.size f (fun j hj => by rw [addr_add]; exact h j (by simpa using hj))
    simp [sizeOf, typeInfo, hi, hl]
  | false => simpa using run_load_cell (h 0 (by simp))

theorem loadW_ok {P : Program} {w0 : Bas} {w : World} {φ : Loc} {S : St} {tmps : Array Value} (hs : SatC w0 φ S tmps w) {p : Value} {d : D} {ag : Bool} {t : TypeId} {i : TypeInfo} {k : D → Prop} (hr : Rep φ w (FSx φ S.own w) p d)
    (hag : isAg (tyOf P t) = some ag) (hi : P.info? t = some i) (h : loadW S d ag i.size k) : ∃ v d', (Instr.loadAt t p).run P w = .ok v w ∧ k d' ∧ Rep φ w (FSx φ S.own w) v d' := by
  have core : ∀ (b o off : Nat) (cs : List D) (mk : List D → D) (g : Nat → Value), (∀ j, j < cs.length → w.cell? ⟨b, o + j, none⟩ = some (g j) ∧ (g j).oneCell' = true) →
      (∀ (j : Nat) (d : D), cs[j]? = some d → Rep φ w (FSx φ S.own w) (g j) d) →
      (∀ (vs : Array Value) (ds : List D), vs.size = ds.length → (∀ (i : Nat) (v : Value), vs[i]? = some v → v.oneCell' = true) → (∀ (j : Nat) (v : Value) (d : D), vs[j]? = some v → ds[j]? = some d → ∃ j', v = g j' ∧ cs[j']? = some d) → Rep φ w (FSx φ S.own w) (.agg vs) (mk ds)) →
      rdW ag i.size cs off mk k → ∃ v d', (loadVar t ⟨b, o + off, none⟩).run P w = .ok v w ∧ k d' ∧ Rep φ w (FSx φ S.own w) v d' := by
    intro b o off cs mk g hc hd hmk h
    cases ag with
    | true =>
      obtain ⟨hl, hk⟩ := h
      have hrun := run_loadVar (P := P) (w := w) (b := b) (o := o + off) hag hi (fun j => g (off + j)) (fun j hj => by
        have := (hc (off + j) (by simp at hj; omega)).1
        rwa [show o + (off + j) = o + off + j by omega] at this)
      refine ⟨_, _, hrun, hk, ?_⟩
      simp only [if_true]
      refine hmk _ _ (by simp; omega) (fun j v hv => ?_) (fun j v d hv hd' => ?_)
      · simp only [List.getElem?_toArray, List.getElem?_map] at hv
        by_cases hj : j < i.size
        · simp [hj] at hv; subst hv; exact (hc _ (by omega)).2
        · simp [hj] at hv
      · simp only [List.getElem?_toArray, List.getElem?_map] at hv
        by_cases hj : j < i.size
        · simp [hj] at hv
          simp only [List.getElem?_take, hj, if_true, List.getElem?_drop] at hd'
          exact ⟨off + j, hv.symm, hd'⟩
        · simp [hj] at hv
    | false =>
      obtain ⟨d', hd', hk⟩ := nthW_ok h
      have hlt : off < cs.length := (List.getElem?_eq_some_iff.1 hd').1
      have hrun := run_loadVar (P := P) (w := w) (b := b) (o := o + off) hag hi (fun j => g (off + j)) (fun j hj => by
        have e : j = 0 := by simp at hj; omega
        subst e
        have := (hc off hlt).1
        simpa using this)
      exact ⟨_, d', hrun, hk, by simpa using hd off d' hd'⟩
  unfold Instr.loadAt
  cases d with
  | rop cs off =>
    cases hr with
    | ro hr =>
      cases hr with
      | @rop b base _ _ g hb hc hd =>
        have := core b base off cs .agg g hc (fun j d h => .ro (hd j d h)) (fun vs ds h1 h2 h3 => .ro (.agg h1 h2 fun j v d hv hdd => by obtain ⟨j', rfl, hj'⟩ := h3 j v d hv hdd; exact hd j' d hj')) h
        simpa [Instr.sureAddr] using this
  | ptr id off =>
    obtain ⟨c, hc, h⟩ := lkoW_ok h
    cases hr with
    | ro hr => cases hr
    | @ptr _ _ b hb =>
      obtain ⟨arr, T, fz, h1, h2, h3, h4, h5, h6⟩ := own_cells hs hc hb
      have := core b 0 off c .oag (fun j => arr.getD j undef) (fun j hj => ⟨by rw [Nat.zero_add]; exact h5 j hj, by obtain ⟨d, hd⟩ : ∃ d, c[j]? = some d := ⟨c[j], by simp [hj]⟩; exact (h6 j d hd).2⟩)
        (fun j d hd => (h6 j d hd).1) (fun vs ds h1 h2 h3 => .oag h1 h2 fun j v d hv hdd => by obtain ⟨j', rfl, hj'⟩ := h3 j v d hv hdd; exact (h6 j' d hj').1) h
      simpa [Instr.sureAddr] using this
  | _ => exact h.elim

/-! ### Writing cells -/
theorem setCells_heap_other (b : Nat) : ∀ (vs : List Value) (o : Nat) (w : World) (k : Nat), k ≠ b → (w.setCells b o vs).heap[k]? = w.heap[k]?
  | [], _, _, _, _ => rfl
  | v :: r, o, w, k, h => by rw [World.setCells, setCells_heap_other b r (o + 1) _ k h]; exact Below.heap_setCell w ⟨b, o, none⟩ v k h
theorem setCells_size (b : Nat) : ∀ (vs : List Value) (o : Nat) (w : World), (w.setCells b o vs).heap.size = w.heap.size
  | [], _, _ => rfl
  | v :: r, o, w => by rw [World.setCells, setCells_size b r]; exact World.size_setCell _ _ _
theorem setCells_os (b : Nat) : ∀ (vs : List Value) (o : Nat) (w : World), (w.setCells b o vs).os = w.os ∧ (w.setCells b o vs).tape = w.tape ∧ (w.setCells b o vs).output = w.output
  | [], _, _ => ⟨rfl, rfl, rfl⟩
  | v :: r, o, w => by rw [World.setCells]; have := setCells_os b r (o + 1) (w.setCell ⟨b, o, none⟩ v); exact this

/-- The array with a stretch of it overwritten. -/
def setArr (arr : Array Value) (o : Nat) : List Value → Array Value
  | [] => arr
  | v :: r => setArr (arr.setIfInBounds o v) (o + 1) r
theorem setArr_size : ∀ (vs : List Value) (o : Nat) (arr : Array Value), (setArr arr o vs).size = arr.size
  | [], _, _ => rfl
  | v :: r, o, arr => by rw [setArr, setArr_size r]; simp
theorem setArr_get : ∀ (vs : List Value) (o : Nat) (arr : Array Value) (j : Nat), o + vs.length ≤ arr.size → (setArr arr o vs)[j]? = if o ≤ j ∧ j < o + vs.length then vs[j - o]? else arr[j]?
  | [], o, arr, j, h => by simp [setArr]; intro h1 h2; omega
  | v :: r, o, arr, j, h => by
    rw [setArr, setArr_get r (o + 1) _ j (by simp at h ⊢; omega)]
    simp only [List.length_cons] at h ⊢
    by_cases h1 : j = o
    · subst h1
      have h2 : ¬ (j + 1 ≤ j ∧ j < j + 1 + r.length) := by omega
      rw [if_neg h2, if_pos (by omega), Array.getElem?_setIfInBounds_self_of_lt (by omega)]
      simp
    · by_cases h2 : o + 1 ≤ j ∧ j < o + 1 + r.length
      · rw [if_pos h2, if_pos (by omega), show j - o = j - (o + 1) + 1 by omega]
        simp
      · rw [if_neg h2, if_neg (by omega), Array.getElem?_setIfInBounds_ne (by omega)]
theorem setCells_heap_same (b : Nat) : ∀ (vs : List Value) (o : Nat) (w : World) (arr : Array Value) (T : TypeId) (fz : Nat × Nat), w.heap[b]? = some (.cells arr T fz) → (w.setCells b o vs).heap[b]? = some (.cells (setArr arr o vs) T fz)
  | [], _, _, _, _, _, h => h
  | v :: r, o, w, arr, T, fz, h => by
    rw [World.setCells, setArr]
    refine setCells_heap_same b r (o + 1) _ _ T fz ?_
    simp only [World.setCell, Array.getElem?_modify, h]
    simp

/-- The list of data with a stretch of it overwritten. -/
def splD (c : List D) (off : Nat) (ds : List D) : List D := c.take off ++ ds ++ c.drop (off + ds.length)
theorem splD_length {c : List D} {off : Nat} {ds : List D} (h : off + ds.length ≤ c.length) : (splD c off ds).length = c.length := by simp [splD]; omega
theorem splD_get {c : List D} {off : Nat} {ds : List D} (h : off + ds.length ≤ c.length) (j : Nat) : (splD c off ds)[j]? = if off ≤ j ∧ j < off + ds.length then ds[j - off]? else c[j]? := by
  unfold splD
  simp only [List.append_assoc, List.getElem?_append, List.length_take, List.getElem?_take, List.getElem?_drop]
  have hm : min off c.length = off := by omega
  rw [hm]
  by_cases h1 : j < off
  · rw [if_pos h1, if_pos h1, if_neg (by omega)]
  · rw [if_neg h1]
    by_cases h2 : j - off < ds.length
    · rw [if_pos h2, if_pos (by omega)]
    · rw [if_neg h2, if_neg (by omega)]
      congr 1
      omega

/-- Cells of an own block are written. -/
theorem SatC.store {P : Program} {w0 : Bas} {w : World} {φ : Loc} {S : St} {tmps : Array Value} (hs : SatC w0 φ S tmps w) {id b off : Nat} {c ds : List D} {vs : List Value} (hid : lk id S.own = some c) (hb : (φ id).1 = some b)
    (hlen : vs.length = ds.length) (hfit : off + ds.length ≤ c.length) (hr : ∀ (i : Nat) (v : Value) (d : D), vs[i]? = some v → ds[i]? = some d → Rep φ w (FSx φ S.own w) v d ∧ v.oneCell' = true) :
    ∃ w', (storeCells ⟨b, off, none⟩ vs).run P w = .ok () w' ∧ SatC w0 φ ⟨S.n, S.nx, S.env, setO id (splD c off ds) S.own⟩ tmps w' ∧ ∀ v d, Rep φ w (FSx φ S.own w) v d → Rep φ w' (FSx φ (setO id (splD c off ds) S.own) w') v d := by
  have h0 := (hs.own id c hid).1
  unfold OwnOk at h0
  rw [hb] at h0
  obtain ⟨arr, T, fz, h1, h2, h3, h4, h5⟩ := h0
  have h1v : ∀ v ∈ vs, v.oneCell' = true := fun v hv => by
    obtain ⟨i, hi, rfl⟩ := List.getElem_of_mem hv
    exact (hr i vs[i] (ds[i]'(by omega)) (by simp [hi]) (by simp)).2
  have hrun := run_storeCells_cells (P := P) b off vs 0 w (fun j hj => by simp only [World.cell?, h1]; simp; omega) (fun j hj => by
      simp only [World.frozen?, h1, Nat.add_zero]
      have := h3 (off + j) (by omega)
      simp only [Bool.and_eq_false_iff, decide_eq_false_iff_not]
      omega) h1v
  simp only [Nat.add_zero] at hrun
  refine ⟨_, hrun, ?_, ?_⟩
  · refine hs.mod (arr := setArr arr off vs) (T := T) (fz := fz) hid hb (setCells_os b vs off w).1 (setCells_os b vs off w).2.1 (setCells_os b vs off w).2.2 (setCells_size b vs off w)
      (fun k hk => setCells_heap_other b vs off w k hk) (setCells_heap_same b vs off w arr T fz h1) (by rw [setArr_size, h2]) (fun o ho => h3 o (by rwa [setArr_size] at ho)) (by rw [splD_length hfit, setArr_size]; exact h4) ?_
    intro i v d hv hd
    rw [setArr_get vs off arr i (by omega)] at hv
    rw [splD_get hfit] at hd
    rw [hlen] at hv
    split at hv
    · rename_i e; rw [if_pos e] at hd; exact hr _ v d hv hd
    · rename_i e; rw [if_neg e] at hd; exact h5 i v d hv hd
  · intro v d h
    refine h.mono (fun k hk => setCells_heap_other b vs off w k fun e => hk.2 id c hid (by rw [hb, e])) (fun k hk => FS_setO hid (by rw [setCells_size]; exact Nat.le_refl _) hk)

#print axioms SatC.store
end Go.Abs
end
section
namespace Go.Abs
open Go.RowKit (Below)

theorem SatC.purge {w0 : Bas} {w : World} {φ : Loc} {S : St} {tmps : Array Value} (h : SatC w0 φ S tmps w) (id : Nat) : SatC w0 φ { S with env := Abs.purge id S.env } tmps w := by
  refine ⟨h.below, h.size, h.own, h.inj, fun s d hd => ?_, h.base, h.pin⟩
  rcases lk_purge hd with ⟨rfl, d', hd'⟩ | ⟨hd', hm⟩
  · obtain ⟨v, hv, _⟩ := h.env s d' hd'
    exact ⟨v, hv, .ro (.any v)⟩
  · exact h.env s d hd'

/-- An own block that is none yet. -/
theorem SatC.virt {w0 : Bas} {w : World} {φ : Loc} {S : St} {tmps : Array Value} (h : SatC w0 φ S tmps w) (hnm : NM S.nx S.own) :
    SatC w0 (Abs.upd φ S.nx (none, 0)) ⟨S.n, S.nx + 1, Abs.purge S.nx S.env, (S.nx, []) :: S.own⟩ tmps w := by
  have hF : ∀ b, FSx φ S.own w b → FSx (Abs.upd φ S.nx (none, 0)) ((S.nx, []) :: S.own) w b := fun b hb => by
    refine ⟨hb.1, fun i c hc => ?_, hb.3⟩
    simp only [lk] at hc
    split at hc
    · rename_i e; subst e; rw [upd_same]; simp
    · rename_i e; rw [upd_other _ _ e]; exact hb.2 i c hc
  refine ⟨h.below, h.size, fun id c hc => ?_, fun id id' c c' b hc hc' hb hb' => ?_, fun s d hd => ?_, h.base, fun i hi => by rw [upd_other _ _ (by have := hnm.lt; omega)]; exact h.pin i hi⟩
  · simp only [lk] at hc
    split at hc
    · rename_i e; cases hc; subst e
      exact ⟨by unfold OwnOk; rw [upd_same]; exact ⟨fun i d hd => by simp at hd, rfl⟩, fun b hb => by rw [upd_same] at hb; cases hb⟩
    · rename_i e
      obtain ⟨h1, h2⟩ := h.own id c hc
      refine ⟨?_, fun b hb => h2 b (by rwa [upd_other _ _ e] at hb)⟩
      unfold OwnOk at h1 ⊢
      rw [upd_other _ _ e]
      split
      · rename_i e1; rw [e1] at h1; exact ⟨fun i d hd => by obtain ⟨v, a1, a2⟩ := h1.1 i d hd; exact ⟨v, a1, (a2.mono (fun _ _ => rfl) hF).upd (hnm.nm id c hc e d (List.mem_of_getElem? hd))⟩, h1.2⟩
      · rename_i b e1
        rw [e1] at h1
        obtain ⟨arr', T', fz', k1, k2, k3, k4, k5⟩ := h1
        exact ⟨arr', T', fz', k1, k2, k3, k4, fun i v d hv hd => ⟨((k5 i v d hv hd).1.mono (fun _ _ => rfl) hF).upd (hnm.nm id c hc e d (List.mem_of_getElem? hd)), (k5 i v d hv hd).2⟩⟩
  · have key : ∀ i c'', lk i ((S.nx, ([] : List D)) :: S.own) = some c'' → (Abs.upd φ S.nx (none, 0) i).1 = some b → lk i S.own = some c'' ∧ (φ i).1 = some b := by
      intro i c'' hi hbi
      simp only [lk] at hi
      split at hi
      · rename_i e; subst e; rw [upd_same] at hbi; cases hbi
      · rename_i e; rw [upd_other _ _ e] at hbi; exact ⟨hi, hbi⟩
    exact h.inj id id' c c' b (key id c hc hb).1 (key id' c' hc' hb').1 (key id c hc hb).2 (key id' c' hc' hb').2
  · rcases lk_purge hd with ⟨rfl, d', hd'⟩ | ⟨hd', hm⟩
    · obtain ⟨v, hv, _⟩ := h.env s d' hd'
      exact ⟨v, hv, .ro (.any v)⟩
    · obtain ⟨v, hv, hr⟩ := h.env s d hd'
      exact ⟨v, hv, (hr.mono (fun _ _ => rfl) hF).upd hm⟩

/-! ### What an append, a copy takes its cells from -/
def srcW (S : St) (sz : Nat) (d : D) (k : Nat → List D → Prop) : Prop :=
  match d with
  | .str s => sz = 1 ∧ k s.length (s.map bD)
  | .nils => k 0 []
  | .sl sz' n cs | .slx sz' n cs => sz' = sz ∧ k n cs
  | .osl id sz' n => lkoW id S.own fun c => sz' = sz ∧ allP c ∧ c.length = n * sz ∧ k n c
  | .osw id off sz' n => lkoW id S.own fun c => sz' = sz ∧ allP c ∧ off + n * sz ≤ c.length ∧ k n ((c.drop off).take (n * sz))
  | _ => False

structure Src (P : Program) (w : World) (F : Nat → Prop) (sz : Nat) (x : Value) (n : Nat) (cs : List D) (vs : List Value) : Prop where
  len : ∀ w', (Builtin.lenOf x).run P w' = .ok n w'
  cells : ∀ m, m ≤ n → ∀ w', (∀ b, b < w.heap.size → w'.heap[b]? = w.heap[b]?) → (Builtin.firstCells sz m x).run P w' = .ok (vs.take (m * sz)).toArray w'
  lv : vs.length = n * sz
  lc : cs.length = n * sz
  rep : ∀ (i : Nat) (v : Value) (d : D), vs[i]? = some v → cs[i]? = some d → RepR w F v d ∧ v.oneCell' = true

theorem src_slice {P : Program} {w : World} {F : Nat → Prop} (hF : ∀ b, F b → b < w.heap.size) {a : Addr} {sz n c : Nat} {cs : List D} (g : Nat → Value) (hsp : a.spot = none) (hb : F a.block) (hl : cs.length = n * sz)
    (hc : ∀ (j : Nat), j < n * sz → w.cell? ⟨a.block, a.off + j, none⟩ = some (g j) ∧ (g j).oneCell' = true) (hd : ∀ (j : Nat) (d : D), cs[j]? = some d → RepR w F (g j) d) :
    Src P w F sz (.slice (some a) n c) n cs ((List.range (n * sz)).map g) := by
  refine ⟨fun w' => rfl, fun m hm w' hw' => ?_, by simp, hl, fun i v d hv hdd => ?_⟩
  · have hle : m * sz ≤ n * sz := Nat.mul_le_mul_right _ hm
    have := run_loadCells (P := P) w' a (m * sz) g (fun j hj => by
      rw [addr_add' hsp, World.cell?_of_block (w := w) (a := ⟨a.block, a.off + j, none⟩) (hw' _ (hF _ hb))]; exact (hc j (by omega)).1)
    simp only [Builtin.firstCells, this]
    congr 2
    rw [← List.map_take, List.take_range, Nat.min_eq_left hle]
  · simp only [List.getElem?_map] at hv
    by_cases hi : i < n * sz
    · simp [hi] at hv; subst hv; exact ⟨hd i d hdd, (hc i hi).2⟩
    · simp [hi] at hv

theorem src_empty {P : Program} {w : World} {F : Nat → Prop} (p : Option Addr) (sz c : Nat) : Src P w F sz (.slice p 0 c) 0 [] [] := by
  refine ⟨fun w' => rfl, fun m hm w' hw' => ?_, by simp, by simp, fun i v d hv => by simp at hv⟩
  obtain rfl : m = 0 := by omega
  cases p with
  | none => simp [Builtin.firstCells]
  | some a =>
    have := run_loadCells (P := P) w' a 0 (fun _ => undef) (fun j hj => by omega)
    simpa [Builtin.firstCells] using this

theorem srcW_ok {P : Program} {w0 : Bas} {w : World} {φ : Loc} {S : St} {tmps : Array Value} (hs : SatC w0 φ S tmps w) {x : Value} {d : D} {sz : Nat} {k : Nat → List D → Prop} (hr : Rep φ w (FSx φ S.own w) x d) (h : srcW S sz d k) :
    ∃ n cs vs, k n cs ∧ Src P w (FSx φ S.own w) sz x n cs vs := by
  have hF : ∀ b, FSx φ S.own w b → b < w.heap.size := fun b hb => hb.1
  cases d with
  | str s =>
    obtain ⟨rfl, hk⟩ := h
    obtain ⟨b, rfl, hb, hl⟩ := hr.str_inv
    refine ⟨_, _, s.map (fun b => Value.int .u8 b.toNat), hk, ?_, ?_, by simp, by simp, ?_⟩
    · intro w'; simp [Builtin.lenOf, ba_size, hb]
    · intro m hm w' _
      simp only [Builtin.firstCells, Sem.run_pure, Nat.mul_one]
      congr 1
      apply Array.ext'
      subst hb
      simp [List.map_take]
    · intro i v d hv hd
      simp only [List.getElem?_map] at hv hd
      cases hi : s[i]? with
      | none => simp [hi] at hv
      | some c =>
        simp [hi] at hv hd
        subst hv; subst hd
        have := c.toNat_lt
        exact ⟨.int (by show (0 : Int) ≤ _; omega) (by show _ ≤ (255 : Int); omega), rfl⟩
  | nils =>
    cases hr with
    | ro hr => cases hr; exact ⟨0, [], [], h, src_empty none sz 0⟩
  | sl sz' n cs =>
    obtain ⟨rfl, hk⟩ := h
    cases hr with
    | ro hr =>
      cases hr with
      | sl0 hc => exact ⟨_, _, _, hk, src_empty _ _ _⟩
      | sl g a b c d e f i => exact ⟨_, _, _, hk, src_slice hF g a b e f i⟩
  | slx sz' n cs =>
    obtain ⟨rfl, hk⟩ := h
    cases hr with
    | ro hr =>
      cases hr with
      | slx0 => exact ⟨_, _, _, hk, src_empty _ _ _⟩
      | slx g a b c d e f => exact ⟨_, _, _, hk, src_slice hF g a b d e f⟩
  | osl id sz' n =>
    obtain ⟨c, hc, rfl, hp, hl, hk⟩ := lkoW_ok h
    cases hr with
    | ro hr => cases hr
    | osl0 hb =>
      have : c = [] := List.eq_nil_of_length_eq_zero (by simpa using hl)
      subst this
      exact ⟨_, _, _, hk, src_empty _ _ _⟩
    | @osl _ _ _ c' b hb he hn hm =>
      obtain ⟨arr, T, fz, h1, h2, h3, h4, h5, h6⟩ := own_cells hs hc hb
      have hbl := (hs.own id c hc).1.lt hb
      refine ⟨_, _, (List.range (n * sz')).map (fun j => arr.getD j undef), hk, ⟨fun w' => rfl, fun m hm w' hw' => ?_, by simp, hl, fun i v d hv hdd => ?_⟩⟩
      · have hle : m * sz' ≤ n * sz' := Nat.mul_le_mul_right _ hm
        have := run_loadCells (P := P) w' ⟨b, 0, none⟩ (m * sz') (fun j => arr.getD j undef) (fun j hj => by
          rw [addr_add, World.cell?_of_block (w := w) (hw' _ hbl), Nat.zero_add]; exact h5 j (by omega))
        simp only [Builtin.firstCells, this]
        congr 2
        rw [← List.map_take, List.take_range, Nat.min_eq_left hle]
      · simp only [List.getElem?_map] at hv
        by_cases hi : i < n * sz'
        · simp only [hi, List.getElem?_range, Option.map_some, Option.some.injEq] at hv
          subst hv; exact ⟨(h6 i d hdd).1.pure (hp d (List.mem_of_getElem? hdd)), (h6 i d hdd).2⟩
        · simp [hi] at hv
  | osw id off sz' n =>
    obtain ⟨c, hc, rfl, hp, hl, hk⟩ := lkoW_ok h
    cases hr with
    | ro hr => cases hr
    | osw0 hc => rw [Nat.zero_mul, List.take_zero] at hk; exact ⟨_, _, _, hk, src_empty _ _ _⟩
    | @osw _ _ _ _ c' b hb hn hm hsz =>
      obtain ⟨arr, T, fz, h1, h2, h3, h4, h5, h6⟩ := own_cells hs hc hb
      have hbl := (hs.own id c hc).1.lt hb
      refine ⟨_, _, (List.range (n * sz')).map (fun j => arr.getD (off + j) undef), hk, ⟨fun w' => rfl, fun m hm w' hw' => ?_, by simp, by simp; omega, fun i v d hv hdd => ?_⟩⟩
      · have hle : m * sz' ≤ n * sz' := Nat.mul_le_mul_right _ hm
        have := run_loadCells (P := P) w' ⟨b, off, none⟩ (m * sz') (fun j => arr.getD (off + j) undef) (fun j hj => by
          rw [addr_add, World.cell?_of_block (w := w) (hw' _ hbl)]; exact h5 _ (by omega))
        simp only [Builtin.firstCells, this]
        congr 2
        rw [← List.map_take, List.take_range, Nat.min_eq_left hle]
      · simp only [List.getElem?_map] at hv
        by_cases hi : i < n * sz'
        · simp only [hi, List.getElem?_range, Option.map_some, Option.some.injEq] at hv
          simp only [List.getElem?_take, hi, if_true, List.getElem?_drop] at hdd
          subst hv; exact ⟨(h6 _ d hdd).1.pure (hp d (List.mem_of_getElem? hdd)), (h6 _ d hdd).2⟩
        · simp [hi] at hv
  | _ => exact h.elim

/-! ### append, as the machine runs it -/
section
variable {P : Program} {w : World} {sT xT ty e : TypeId} {i : TypeInfo} {z : Value} {u : TypeDesc} {x : Value} {p : Option Addr} {n c m : Nat}

theorem run_append_fits (ht : P.underlying sT = some (.slice e)) (hi : P.info? e = some i) (hx : P.underlying xT = some u) (hu : ∀ k, u ≠ .int k) {vs : List Value} (hl : ∀ w', (Builtin.lenOf x).run P w' = .ok m w')
    (hv : (Builtin.firstCells i.size m x).run P w = .ok vs.toArray w) (hfit : n + m ≤ c) {w' : World} (hst : ∀ a, p = some a → (storeCells (a.add (n * i.size)) vs).run P w = .ok () w') (hno : p = none → w' = w) :
    (Builtin.append_ #[sT, xT] ty #[.slice p n c, x]).run P w = .ok (.slice p (n + m) c) w' := by
  have hint : (match u with | .int _ => true | _ => false) = false := by
    cases u <;> first | rfl | (rename_i k; exact (hu k rfl).elim)
  cases p with
  | none =>
    cases hno rfl
    simp [Builtin.append_, run_underlying ht, run_underlying hx, hint, sizeOf, typeInfo, hi, hl, hv, hfit]
  | some a =>
    have h1 := hst a rfl
    simp [Builtin.append_, run_underlying ht, run_underlying hx, hint, sizeOf, typeInfo, hi, hl, hv, hfit, h1]

theorem run_append_grows (ht : P.underlying sT = some (.slice e)) (hi : P.info? e = some i) (hz : i.zero = some z) (hx : P.underlying xT = some u) (hu : ∀ k, u ≠ .int k) {os vs : List Value}
    (hl : ∀ w', (Builtin.lenOf x).run P w' = .ok m w') (hv : (Builtin.firstCells i.size m x).run P w.drew = .ok vs.toArray w.drew) (ho : (Builtin.firstCells i.size n (.slice p n c)).run P w.drew = .ok os.toArray w.drew)
    (hg : c < n + m) (hby : (n + m) * i.bytes ≤ 140737488355328) (h63 : n + m ≤ maxLen) :
    (Builtin.append_ #[sT, xT] ty #[.slice p n c, x]).run P w = .ok (.slice (some ⟨w.heap.size, 0, none⟩) (n + m) (grownCap w (n + m) c e))
      (w.drew.alloc (.cells (os.toArray ++ vs.toArray ++ Builtin.zeroCells z.cells (grownCap w (n + m) c e - (n + m))) e)) := by
  have hint : (match u with | .int _ => true | _ => false) = false := by
    cases u <;> first | rfl | (rename_i k; exact (hu k rfl).elim)
  have hn : ¬ (n + m ≤ c) := by omega
  have h63' : ¬ (9223372036854775807 < ((n : Int) + (m : Int))) := by simp only [maxLen] at h63; omega
  have hf := growslice_fits hg hby
  have h48' : ¬ (281474976710656 < Builtin.nextslicecap (n + m) c * i.bytes) := by omega
  simp [Builtin.append_, run_underlying ht, run_underlying hx, hint, sizeOf, typeInfo, zeroValue, hi, hz, hl, hn, h63', h48', Question.forced, hv, ho, newRow, grownCap]
  congr 2
  apply Array.ext'
  simp
end

/-! ### append, on data -/
def nmC (id : Nat) (cs : List D) : Prop := ∀ d ∈ cs, mn id d = false
def nmW (id : Nat) : List (Nat × List D) → Prop → Prop
  | [], A => id < pinB ∧ A
  | (_, c) :: r, A => nmC id c ∧ nmW id r A
theorem nmW_ok' {id : Nat} : ∀ {own : List (Nat × List D)} {A : Prop}, nmW id own A → (∀ i c, lk i own = some c → ∀ d ∈ c, mn id d = false) ∧ id < pinB ∧ A
  | [], A, h => ⟨fun i c hc => by simp [lk] at hc, h⟩
  | (j, x) :: r, A, h => by
    obtain ⟨hx, h⟩ := h
    obtain ⟨h1, h2⟩ := nmW_ok' h
    refine ⟨fun i c hc => ?_, h2⟩
    simp only [lk] at hc
    split at hc
    · cases hc; exact hx
    · exact h1 i c hc
theorem nmW_ok {id : Nat} {own : List (Nat × List D)} {A : Prop} (h : nmW id own A) : NM id own ∧ A := ⟨⟨(nmW_ok' h).2.1, fun i c hc _ => (nmW_ok' h).1 i c hc⟩, (nmW_ok' h).2.2⟩
def pgW (id : Nat) (env : List (Nat × D)) (k : List (Nat × D) → Prop) : Prop := k (purge id env)
def soW (id : Nat) (cs : List D) (own : List (Nat × List D)) (k : List (Nat × List D) → Prop) : Prop := k (setO id cs own)

/-- What names a block drops out of the own blocks' cells. -/
def pgD (id : Nat) (d : D) : D := if mn id d = true then .any else d
def purgeO (id : Nat) (own : List (Nat × List D)) : List (Nat × List D) := own.map fun p => (p.1, p.2.map (pgD id))
def pgoW (id : Nat) (own : List (Nat × List D)) (k : List (Nat × List D) → Prop) : Prop := k (purgeO id own)
theorem lk_purgeO {id i : Nat} : ∀ {own : List (Nat × List D)}, lk i (purgeO id own) = (lk i own).map fun c => c.map (pgD id)
  | [] => rfl
  | (j, c) :: r => by
    have ih := lk_purgeO (id := id) (i := i) (own := r)
    simp only [purgeO, List.map_cons, lk] at ih ⊢
    split
    · rfl
    · exact ih
theorem mn_pgD (id : Nat) (d : D) : mn id (pgD id d) = false := by
  unfold pgD; split
  · rfl
  · rename_i h; simpa using h
theorem pgD_nm {id : Nat} {c : List D} (h : nmC id c) : c.map (pgD id) = c := by
  conv => rhs; rw [← List.map_id c]
  exact List.map_congr_left fun d hd => by unfold pgD; rw [h d hd]; rfl
theorem FS_purgeO {id : Nat} {φ : Loc} {own : List (Nat × List D)} {w : World} : FSx φ (purgeO id own) w = FSx φ own w := by
  funext b
  apply propext
  constructor
  · intro h
    exact ⟨h.1, fun i c hc => h.2 i (c.map (pgD id)) (by rw [lk_purgeO, hc]; rfl), h.3⟩
  · intro h
    refine ⟨h.1, fun i c hc => ?_, h.3⟩
    rw [lk_purgeO] at hc
    cases e : lk i own with
    | none => rw [e] at hc; cases hc
    | some c0 => exact h.2 i c0 e
theorem SatC.purgeO {w0 : Bas} {w : World} {φ : Loc} {S : St} {tmps : Array Value} (hs : SatC w0 φ S tmps w) (id : Nat) : SatC w0 φ ⟨S.n, S.nx, S.env, purgeO id S.own⟩ tmps w := by
  have old : ∀ {i c}, lk i (Abs.purgeO id S.own) = some c → ∃ c0, lk i S.own = some c0 ∧ c = c0.map (pgD id) := by
    intro i c hc
    rw [lk_purgeO] at hc
    cases e : lk i S.own with
    | none => rw [e] at hc; cases hc
    | some c0 => rw [e] at hc; exact ⟨c0, rfl, (Option.some.inj hc).symm⟩
  refine ⟨hs.below, hs.size, fun i c hc => ?_, fun i i' c c' b h1 h2 => ?_, fun s d hd => ?_, hs.base, hs.pin⟩
  · obtain ⟨c0, h0, rfl⟩ := old hc
    obtain ⟨h1, h2⟩ := hs.own i c0 h0
    refine ⟨?_, h2⟩
    show OwnOk w (FSx φ (Abs.purgeO id S.own) w) φ i _
    rw [FS_purgeO]
    unfold OwnOk at h1 ⊢
    revert h1
    cases (φ i).1 with
    | none =>
      rintro ⟨h, h'⟩
      refine ⟨fun j d hd => ?_, h'⟩
      rw [List.getElem?_map] at hd
      cases e0 : c0[j]? with
      | none => rw [e0] at hd; cases hd
      | some d0 =>
        rw [e0] at hd
        have hd : pgD id d0 = d := Option.some.inj hd
        subst hd
        obtain ⟨v, a1, a2⟩ := h j d0 e0
        refine ⟨v, a1, ?_⟩
        unfold pgD; split
        · exact .ro (.any _)
        · exact a2
    | some b =>
      rintro ⟨arr, T, fz, a1, a2, a3, a4, a5⟩
      refine ⟨arr, T, fz, a1, a2, a3, by simpa using a4, fun j v d hv hd => ?_⟩
      rw [List.getElem?_map] at hd
      cases e0 : c0[j]? with
      | none => rw [e0] at hd; cases hd
      | some d0 =>
        rw [e0] at hd
        have hd : pgD id d0 = d := Option.some.inj hd
        subst hd
        refine ⟨?_, (a5 j v d0 hv e0).2⟩
        unfold pgD; split
        · exact .ro (.any _)
        · exact (a5 j v d0 hv e0).1
  · obtain ⟨c0, h0, _⟩ := old h1
    obtain ⟨c0', h0', _⟩ := old h2
    exact hs.inj i i' c0 c0' b h0 h0'
  · show ∃ v, _ ∧ Rep φ w (FSx φ (Abs.purgeO id S.own) w) v d
    rw [FS_purgeO]; exact hs.env s d hd

/-- A new own block with these cells. -/
def newW (S : St) (cs : List D) (k : St → Prop) : Prop := nmW S.nx S.own (pgW S.nx S.env fun env' => k ⟨S.n, S.nx + 1, env', (S.nx, cs) :: S.own⟩)

def roomW (n by_ : Nat) (A : Prop) : Prop := n * by_ ≤ 140737488355328 ∧ n ≤ maxLen ∧ A

def appW (S : St) (sz by_ : Nat) (s : D) (m : Nat) (es : List D) (k : D → St → Prop) : Prop :=
  match s with
  | .osl id sz' n => lkoW id S.own fun c => sz' = sz ∧ c.length = n * sz ∧ nmC id c ∧ id < pinB ∧ roomW (n + m) by_ (pgoW id S.own fun own0 => pgW id S.env fun env' => soW id (c ++ es) own0 fun own' => k (.osl id sz (n + m)) ⟨S.n, S.nx, env', own'⟩)
  | .nils => roomW m by_ (newW S es fun S' => k (.osl S.nx sz m) S')
  | .slx sz' n cs => sz' = sz ∧ roomW (n + m) by_ ((n = 0 ∧ newW S es fun S' => k (.osl S.nx sz m) S') ∨ (0 < m ∧ newW S (cs ++ es) fun S' => k (.osl S.nx sz (n + m)) S') ∨ k (.sl sz (n + m) (cs ++ es)) S)
  | _ => False

theorem Rep.of_drew {φ : Loc} {w : World} {own : List (Nat × List D)} {v : Value} {d : D} (h : Rep φ w (FSx φ own w) v d) : Rep φ w.drew (FSx φ own w.drew) v d := h.ext (Below.refl _ _).drew
theorem SatC.drew {w0 : Bas} {w : World} {φ : Loc} {S : St} {tmps : Array Value} (h : SatC w0 φ S tmps w) : SatC w0 φ S tmps w.drew := h.ext (Below.refl _ _).drew

theorem mn_of_repR {w : World} {F : Nat → Prop} {v : Value} {d : D} (h : RepR w F v d) (id : Nat) : mn id d = false := by
  cases h <;> rfl

theorem zeroCells_size (z : Array Value) (n : Nat) : (Builtin.zeroCells z n).size = n * z.size := by simp [Builtin.zeroCells]

/-- The cells of the new row: what was there, what came, zeros. -/
theorem row_get {os vs : List Value} {zs : Array Value} {c es : List D} (ho : os.length = c.length) {j : Nat} {v : Value} {d : D}
    (hlv : vs.length = es.length) (hv : (os.toArray ++ vs.toArray ++ zs)[j]? = some v) (hd : (c ++ es)[j]? = some d) : (os[j]? = some v ∧ c[j]? = some d) ∨ (vs[j - c.length]? = some v ∧ es[j - c.length]? = some d) := by
  have hj : j < c.length + es.length := by have := (List.getElem?_eq_some_iff.1 hd).1; simpa using this
  rw [List.getElem?_append] at hd
  rw [Array.getElem?_append, if_pos (by simp; omega), Array.getElem?_append] at hv
  by_cases h : j < c.length
  · rw [if_pos h] at hd; rw [if_pos (by simp; omega)] at hv; exact .inl ⟨by simpa using hv, hd⟩
  · rw [if_neg h] at hd; rw [if_neg (by simp; omega)] at hv; exact .inr ⟨by simpa [ho] using hv, hd⟩

theorem row_size {os vs : List Value} {z : Array Value} {n m sz cap : Nat} (ho : os.length = n * sz) (hv : vs.length = m * sz) (hz : z.size = sz) (hc : n + m ≤ cap) :
    (os.toArray ++ vs.toArray ++ Builtin.zeroCells z (cap - (n + m))).size = cap * sz := by
  simp only [Array.size_append, List.size_toArray, zeroCells_size, hz, ho, hv, ← Nat.add_mul]
  congr 1
  omega

theorem SatC.congr_own {w0 : Bas} {w : World} {φ : Loc} {n nx : Nat} {env : List (Nat × D)} {own own' : List (Nat × List D)} {tmps : Array Value} (h : SatC w0 φ ⟨n, nx, env, own⟩ tmps w) (he : ∀ j, lk j own' = lk j own) : SatC w0 φ ⟨n, nx, env, own'⟩ tmps w := by
  have hF : ∀ w b, FSx φ own w b → FSx φ own' w b := fun w b hb => ⟨hb.1, fun i c hc => hb.2 i c (by rw [← he]; exact hc), hb.3⟩
  refine ⟨h.below, h.size, fun i c hc => ⟨((h.own i c (by rw [← he]; exact hc)).1).mono (fun _ _ => rfl) (hF w) (fun _ _ => rfl), (h.own i c (by rw [← he]; exact hc)).2⟩,
    fun i i' c c' b hc hc' => h.inj i i' c c' b (by rw [← he]; exact hc) (by rw [← he]; exact hc'), fun s d hd => ?_, h.base, h.pin⟩
  obtain ⟨v, hv, hr⟩ := h.env s d hd
  exact ⟨v, hv, hr.mono (fun _ _ => rfl) (hF w)⟩

theorem lk_setO_eq {id : Nat} {c : List D} {own : List (Nat × List D)} (h : lk id own = some c) (j : Nat) : lk j (setO id c own) = lk j own := by
  by_cases e : j = id
  · subst e; rw [lk_setO_same h, h]
  · exact lk_setO_other e

/-- A new row behind a draw: the call's own from here on. -/
theorem SatC.newDrew {w0 : Bas} {w : World} {φ : Loc} {S : St} {tmps : Array Value} (hs : SatC w0 φ S tmps w) {os vs : List Value} {zs : Array Value} {c es : List D} {T : TypeId} {arr : Array Value} (harr : arr = os.toArray ++ vs.toArray ++ zs)
    (ho : os.length = c.length) (hlv : vs.length = es.length) (h1 : ∀ (i : Nat) (v : Value) (d : D), os[i]? = some v → c[i]? = some d → RepR w (FSx φ S.own w) v d ∧ v.oneCell' = true)
    (h2 : ∀ (i : Nat) (v : Value) (d : D), vs[i]? = some v → es[i]? = some d → RepR w (FSx φ S.own w) v d ∧ v.oneCell' = true) (hnm : NM S.nx S.own) :
    SatC w0 (Abs.upd φ S.nx (some w.heap.size, arr.size)) ⟨S.n, S.nx + 1, Abs.purge S.nx S.env, (S.nx, c ++ es) :: S.own⟩ tmps (w.drew.alloc (.cells arr T)) := by
  have := hs.drew.new arr T (0, 0) (c ++ es) (fun o _ => by simp) (by subst harr; simp; omega) (fun i v d hv hd => by
    subst harr
    rcases row_get ho hlv hv hd with ⟨a, b⟩ | ⟨a, b⟩
    · exact ⟨(Rep.ro (h1 _ v d a b).1).of_drew, (h1 _ v d a b).2, mn_of_repR (h1 _ v d a b).1 _⟩
    · exact ⟨(Rep.ro (h2 _ v d a b).1).of_drew, (h2 _ v d a b).2, mn_of_repR (h2 _ v d a b).1 _⟩) hnm
  simpa using this

structure AppTy (P : Program) (sT xT e : TypeId) (i : TypeInfo) (z : Value) (u : TypeDesc) : Prop where
  ht : P.underlying sT = some (.slice e)
  hi : P.info? e = some i
  hz : i.zero = some z
  hzs : z.cells.size = i.size
  hx : P.underlying xT = some u
  hu : ∀ k, u ≠ .int k

/-- What an append leaves. -/
def Left (w0 : Bas) (S : St) (tmps : Array Value) (k : D → St → Prop) (v : Value) (w' : World) : Prop := ∃ φ' d S', k d S' ∧ SatC w0 φ' S' tmps w' ∧ Rep φ' w' (FSx φ' S'.own w') v d ∧ S'.n = S.n

section
variable {P : Program} {w0 : Bas} {w : World} {φ : Loc} {S : St} {tmps : Array Value} {sT xT ty e : TypeId} {i : TypeInfo} {z : Value} {u : TypeDesc} {x : Value} {m : Nat} {es : List D} {vs : List Value}

/-- .. onto an empty slice without capacity. -/
theorem app_empty (hs : SatC w0 φ S tmps w) (T : AppTy P sT xT e i z u) (src : Src P w (FSx φ S.own w) i.size x m es vs) {p : Option Addr} {k : D → St → Prop} (h : roomW m i.bytes (newW S es fun S' => k (.osl S.nx i.size m) S')) :
    ∃ v w', (Builtin.append_ #[sT, xT] ty #[.slice p 0 0, x]).run P w = .ok v w' ∧ Left w0 S tmps k v w' := by
  obtain ⟨hby, h63, h⟩ := h
  obtain ⟨hnm, hk⟩ := nmW_ok h
  have hve : vs.length = es.length := by rw [src.lv, src.lc]
  by_cases hm : m = 0
  · subst hm
    have h0 : vs = [] := List.eq_nil_of_length_eq_zero (by rw [src.lv]; simp)
    have h1 : es = [] := List.eq_nil_of_length_eq_zero (by rw [src.lc]; simp)
    subst h0; subst h1
    have hv := src.cells 0 (Nat.le_refl _) w (fun _ _ => rfl)
    simp only [List.take_nil] at hv
    refine ⟨_, _, run_append_fits T.ht T.hi T.hx T.hu src.len hv (by omega) (w' := w) (fun a _ => rfl) (fun _ => rfl), _, _, _, hk, hs.virt hnm, ?_, rfl⟩
    exact .osl0 (by rw [upd_same])
  · have hv := src.cells m (Nat.le_refl _) w.drew (fun _ _ => rfl)
    rw [List.take_of_length_le (by rw [src.lv]; exact Nat.le_refl _)] at hv
    have ho := (src_empty (P := P) (w := w) (F := FSx φ S.own w) p i.size 0).cells 0 (Nat.le_refl _) w.drew (fun _ _ => rfl)
    simp only [List.take_nil] at ho
    have hrun := run_append_grows (ty := ty) (p := p) (c := 0) T.ht T.hi T.hz T.hx T.hu src.len hv ho (by omega) (by simpa using hby) (by simpa using h63)
    refine ⟨_, _, hrun, _, _, _, hk, hs.newDrew (c := []) rfl rfl hve (fun i v d hv => by simp at hv) src.rep hnm, ?_, rfl⟩
    have hge : 0 + m ≤ grownCap w (0 + m) 0 e := grownCap_ge w _ _ _
    have hle : grownCap w (0 + m) 0 e ≤ maxLen := grownCap_le_maxLen w _ _ _ (by simpa using h63)
    rw [Nat.zero_add] at hge hle ⊢
    refine Rep.osl (by rw [upd_same]) ?_ hge hle
    rw [upd_same]
    have := row_size (os := []) (n := 0) (by simp) src.lv T.hzs (cap := grownCap w m 0 e) (by simpa using hge)
    simpa using this.symm
end

#print axioms run_append_grows
#print axioms app_empty
end Go.Abs
end
