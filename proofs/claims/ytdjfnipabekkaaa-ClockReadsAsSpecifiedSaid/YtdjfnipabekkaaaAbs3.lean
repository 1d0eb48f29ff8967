/-
  AN ABSTRACT WALK, third text: what becomes of the state where a block is made, written, grown; the program's types; contracts.
-/
import Derived.Test.YtdjfnipabekkaaaAbs2
import Derived.Laws.IdiomCopy
namespace Go.Abs
open Go.RowKit (Below)

/-! ### The program's types -/
inductive TY where
  | int (k : IntKind) | bool | str | slice (e : TypeId) | arr (n : Nat) (e : TypeId) | struct (fs : List (Nat × TypeId)) | ptr (e : TypeId) | func | map (k e : TypeId) | other

def tyOf (P : Program) (t : TypeId) : TY :=
  match P.underlying t with
  | some (.int k) => .int k
  | some .bool => .bool
  | some .string => .str
  | some (.slice e) => .slice e
  | some (.array n e) => .arr n e
  | some (.struct fs) => .struct (fs.toList.map fun f => (f.offset, f.type))
  | some (.pointer e) => .ptr e
  | some (.func _ _ _) => .func
  | some (.map k e) => .map k e
  | _ => .other
def tyW (P : Program) (t : TypeId) (k : TY → Prop) : Prop := k (tyOf P t)
def szW (P : Program) (t : TypeId) (k : Nat → Prop) : Prop := match P.info? t with | some i => k i.size | none => False
def byW (P : Program) (t : TypeId) (k : Nat → Prop) : Prop := match P.info? t with | some i => k i.bytes | none => False
def zeroW (P : Program) (t : TypeId) (k : List D → Prop) : Prop :=
  match P.info? t with
  | some i => match i.zero with | some v => v.cells.all Value.oneCell' = true ∧ k (v.cells.toList.map dS) | none => False
  | none => False

theorem szW_ok {P : Program} {t : TypeId} {k : Nat → Prop} (h : szW P t k) : ∃ i, P.info? t = some i ∧ k i.size := by
  unfold szW at h; split at h
  · rename_i i e; exact ⟨i, e, h⟩
  · exact h.elim
theorem byW_ok {P : Program} {t : TypeId} {k : Nat → Prop} (h : byW P t k) : ∃ i, P.info? t = some i ∧ k i.bytes := by
  unfold byW at h; split at h
  · rename_i i e; exact ⟨i, e, h⟩
  · exact h.elim
theorem zeroW_ok {P : Program} {t : TypeId} {k : List D → Prop} (h : zeroW P t k) : ∃ i v, P.info? t = some i ∧ i.zero = some v ∧ v.cells.all Value.oneCell' = true ∧ k (v.cells.toList.map dS) := by
  unfold zeroW at h; split at h
  · rename_i i e
    split at h
    · rename_i v e2; exact ⟨i, v, e, e2, h.1, h.2⟩
    · exact h.elim
  · exact h.elim

section
variable {P : Program} {t : TypeId}
theorem tyOf_slice {e : TypeId} (h : tyOf P t = .slice e) : P.underlying t = some (.slice e) := by
  unfold tyOf at h; split at h <;> simp_all
theorem tyOf_arr {n : Nat} {e : TypeId} (h : tyOf P t = .arr n e) : P.underlying t = some (.array n e) := by
  unfold tyOf at h; split at h <;> simp_all
theorem tyOf_str (h : tyOf P t = .str) : P.underlying t = some .string := by
  unfold tyOf at h; split at h <;> simp_all
theorem tyOf_bool (h : tyOf P t = .bool) : P.underlying t = some .bool := by
  unfold tyOf at h; split at h <;> simp_all
theorem tyOf_int {k : IntKind} (h : tyOf P t = .int k) : P.underlying t = some (.int k) := by
  unfold tyOf at h; split at h <;> simp_all
theorem tyOf_ptr {e : TypeId} (h : tyOf P t = .ptr e) : P.underlying t = some (.pointer e) := by
  unfold tyOf at h; split at h <;> simp_all
theorem tyOf_struct {fs : List (Nat × TypeId)} (h : tyOf P t = .struct fs) : ∃ a : Array Field, P.underlying t = some (.struct a) ∧ fs = a.toList.map fun f => (f.offset, f.type) := by
  unfold tyOf at h; split at h <;> simp_all
end

/-- Is a value of this type several cells, written as one (a struct, an array)? -/
def isAg : TY → Option Bool
  | .struct _ | .arr _ _ => some true
  | .other => none
  | _ => some false
theorem run_isAgg {P : Program} {t : TypeId} {b : Bool} (h : isAg (tyOf P t) = some b) (w : World) : (isAgg t).run P w = .ok b w := by
  unfold tyOf at h
  generalize hu : P.underlying t = u at h
  cases u with
  | none => simp [isAg] at h
  | some d => cases d <;> simp_all [isAg, isAgg, underlying]

/-! ### A block of the call's own is made -/
def purge (id : Nat) (env : List (Nat × D)) : List (Nat × D) := env.map fun p => (p.1, if mn id p.2 = true then .any else p.2)
theorem lk_purge {id s : Nat} {env : List (Nat × D)} {d : D} (h : lk s (purge id env) = some d) : d = .any ∧ (∃ d', lk s env = some d') ∨ (lk s env = some d ∧ mn id d = false) := by
  induction env with
  | nil => simp [purge, lk] at h
  | cons p r ih =>
    obtain ⟨t, e⟩ := p
    simp only [purge, List.map_cons, lk] at h ⊢
    split at h
    · rename_i e1
      simp only [if_pos e1]
      by_cases hm : mn id e = true
      · rw [if_pos hm] at h; cases h; exact .inl ⟨rfl, _, rfl⟩
      · rw [if_neg hm] at h; cases h; exact .inr ⟨rfl, by simpa using hm⟩
    · rename_i e1
      simp only [if_neg e1]
      exact ih h

/-- No own block's cells but those of 'id' name 'id'. -/
structure NM (id : Nat) (own : List (Nat × List D)) : Prop where
  lt : id < pinB
  nm : ∀ i c, lk i own = some c → i ≠ id → ∀ d ∈ c, mn id d = false

theorem FS_alloc {φ : Loc} {own : List (Nat × List D)} {w : World} {id m : Nat} {o : Obj} {cs : List D} {b : Nat} (h : FSx φ own w b) : FSx (upd φ id (some w.heap.size, m)) ((id, cs) :: own) (w.alloc o) b := by
  refine ⟨Nat.lt_of_lt_of_le h.1 (by simp), fun i c hc => ?_, h.3⟩
  simp only [lk] at hc
  split at hc
  · rename_i e; subst e; rw [upd_same]; intro e; have := h.1; simp at e; omega
  · rename_i e; rw [upd_other _ _ e]; exact h.2 i c hc

theorem SatC.new {w0 : Bas} {w : World} {φ : Loc} {S : St} {tmps : Array Value} (h : SatC w0 φ S tmps w) (arr : Array Value) (T : TypeId) (fz : Nat × Nat) (cs : List D)
    (hfz : ∀ o, o < arr.size → ¬ (fz.1 ≤ o ∧ o < fz.2)) (hlen : cs.length ≤ arr.size)
    (hcs : ∀ (i : Nat) (v : Value) (d : D), arr[i]? = some v → cs[i]? = some d → Rep φ w (FSx φ S.own w) v d ∧ v.oneCell' = true ∧ mn S.nx d = false) (hnm : NM S.nx S.own) :
    SatC w0 (Abs.upd φ S.nx (some w.heap.size, arr.size)) ⟨S.n, S.nx + 1, purge S.nx S.env, (S.nx, cs) :: S.own⟩ tmps (w.alloc (.cells arr T fz)) := by
  have hw : ∀ b, FSx φ S.own w b → (w.alloc (.cells arr T fz)).heap[b]? = w.heap[b]? := fun b hb => Below.heap_alloc _ _ _ hb.1
  have hF : ∀ b, FSx φ S.own w b → FSx (Abs.upd φ S.nx (some w.heap.size, arr.size)) ((S.nx, cs) :: S.own) (w.alloc (.cells arr T fz)) b := fun b hb => FS_alloc hb
  refine ⟨h.below.alloc _, h.size, fun id c hc => ?_, fun id id' c c' b hc hc' hb hb' => ?_, fun s d hd => ?_, h.base, fun i hi => by rw [upd_other _ _ (by have := hnm.lt; omega)]; exact h.pin i hi⟩
  · simp only [lk] at hc
    split at hc
    · rename_i e; cases hc; subst e
      refine ⟨?_, fun b hb => by rw [upd_same] at hb; cases hb; exact .inl h.below.size⟩
      unfold OwnOk
      rw [upd_same]
      exact ⟨arr, T, fz, heap_alloc_new w _, rfl, hfz, hlen, fun i v d hv hd => ⟨((hcs i v d hv hd).1.mono hw hF).upd (hcs i v d hv hd).2.2, (hcs i v d hv hd).2.1⟩⟩
    · rename_i e
      obtain ⟨h1, h2⟩ := h.own id c hc
      refine ⟨?_, fun b hb => h2 b (by rwa [upd_other _ _ e] at hb)⟩
      unfold OwnOk at h1 ⊢
      rw [upd_other _ _ e]
      split
      · rename_i e1; rw [e1] at h1; exact ⟨fun i d hd => by obtain ⟨v, a1, a2⟩ := h1.1 i d hd; exact ⟨v, a1, (a2.mono hw hF).upd (hnm.nm id c hc e d (List.mem_of_getElem? hd))⟩, h1.2⟩
      · rename_i b e1
        rw [e1] at h1
        obtain ⟨arr', T', fz', k1, k2, k3, k4, k5⟩ := h1
        exact ⟨arr', T', fz', (Below.heap_alloc _ _ _ (Array.getElem?_eq_some_iff.1 k1).1).trans k1, k2, k3, k4, fun i v d hv hd =>
          ⟨((k5 i v d hv hd).1.mono hw hF).upd (hnm.nm id c hc e d (List.mem_of_getElem? hd)), (k5 i v d hv hd).2⟩⟩
  · have key : ∀ i c'', lk i ((S.nx, cs) :: S.own) = some c'' → (Abs.upd φ S.nx (some w.heap.size, arr.size) i).1 = some b → (i = S.nx ∧ b = w.heap.size) ∨ (i ≠ S.nx ∧ lk i S.own = some c'' ∧ (φ i).1 = some b ∧ b < w.heap.size) := by
      intro i c'' hi hbi
      simp only [lk] at hi
      split at hi
      · rename_i e; subst e; rw [upd_same] at hbi; cases hbi; exact .inl ⟨rfl, rfl⟩
      · rename_i e; rw [upd_other _ _ e] at hbi; exact .inr ⟨e, hi, hbi, (h.own i _ hi).1.lt hbi⟩
    rcases key id c hc hb with ⟨e1, e2⟩ | ⟨e1, e2, e3, e4⟩ <;> rcases key id' c' hc' hb' with ⟨f1, f2⟩ | ⟨f1, f2, f3, f4⟩
    · rw [e1, f1]
    · omega
    · omega
    · exact h.inj id id' c c' b e2 f2 e3 f3
  · rcases lk_purge hd with ⟨rfl, d', hd'⟩ | ⟨hd', hm⟩
    · obtain ⟨v, hv, _⟩ := h.env s d' hd'
      exact ⟨v, hv, .ro (.any v)⟩
    · obtain ⟨v, hv, hr⟩ := h.env s d hd'
      exact ⟨v, hv, (hr.mono hw hF).upd hm⟩

/-! ### A block of the call's own is written -/
def setO (id : Nat) (cs : List D) : List (Nat × List D) → List (Nat × List D)
  | [] => []
  | (i, c) :: r => if id = i then (i, cs) :: r else (i, c) :: setO id cs r
theorem lk_setO_same {id : Nat} {cs c : List D} {own : List (Nat × List D)} (h : lk id own = some c) : lk id (setO id cs own) = some cs := by
  induction own with
  | nil => simp [lk] at h
  | cons p r ih =>
    obtain ⟨i, x⟩ := p
    simp only [lk, setO] at h ⊢
    split
    · rename_i e; simp [lk, e]
    · rename_i e; rw [if_neg e] at h; simp only [lk, if_neg e]; exact ih h
theorem lk_setO_other {id i : Nat} {cs : List D} {own : List (Nat × List D)} (h : i ≠ id) : lk i (setO id cs own) = lk i own := by
  induction own with
  | nil => rfl
  | cons p r ih =>
    obtain ⟨j, x⟩ := p
    simp only [lk, setO]
    by_cases e : id = j
    · rw [if_pos e]; subst e; simp [lk, h]
    · rw [if_neg e]; simp only [lk, ih]

theorem FS_setO {φ : Loc} {own : List (Nat × List D)} {w w' : World} {id : Nat} {cs c : List D} (hid : lk id own = some c) (hsz : w.heap.size ≤ w'.heap.size) {b : Nat} (h : FSx φ own w b) : FSx φ (setO id cs own) w' b := by
  refine ⟨Nat.lt_of_lt_of_le h.1 hsz, fun i x hx => ?_, h.3⟩
  by_cases e : i = id
  · subst e; exact h.2 i c hid
  · rw [lk_setO_other e] at hx; exact h.2 i x hx

theorem SatC.mod {w0 : Bas} {w w' : World} {φ : Loc} {S : St} {tmps : Array Value} (h : SatC w0 φ S tmps w) {id b : Nat} {c cs : List D} {arr : Array Value} {T : TypeId} {fz : Nat × Nat}
    (hid : lk id S.own = some c) (hb : (φ id).1 = some b) (hos : w'.os = w.os) (htape : w'.tape = w.tape) (hout : w'.output = w.output) (hsz : w'.heap.size = w.heap.size)
    (hoth : ∀ k, k ≠ b → w'.heap[k]? = w.heap[k]?) (hblk : w'.heap[b]? = some (.cells arr T fz)) (hsize : arr.size = (φ id).2) (hfz : ∀ o, o < arr.size → ¬ (fz.1 ≤ o ∧ o < fz.2)) (hlen : cs.length ≤ arr.size)
    (hcs : ∀ (i : Nat) (v : Value) (d : D), arr[i]? = some v → cs[i]? = some d → Rep φ w (FSx φ S.own w) v d ∧ v.oneCell' = true) :
    SatC w0 φ ⟨S.n, S.nx, S.env, setO id cs S.own⟩ tmps w' := by
  have hw : ∀ k, FSx φ S.own w k → w'.heap[k]? = w.heap[k]? := fun k hk => hoth k fun e => hk.2 id c hid (by rw [hb, e])
  have hF : ∀ k, FSx φ S.own w k → FSx φ (setO id cs S.own) w' k := fun k hk => FS_setO hid (by omega) hk
  have hB : w0.w.heap.size ≤ b ∨ w0.lent b := (h.own id c hid).2 b hb
  refine ⟨⟨hos.trans h.below.os, htape.trans h.below.tape, hout.trans h.below.output, by have := h.below.size; omega, fun k hk hl => (hoth k (fun e => hB.elim (fun h => absurd hk (by omega)) fun h => hl (by rw [e]; exact h))).trans (h.below.block k hk hl)⟩, h.size, fun i x hx => ?_, fun i i' x x' k hx hx' hk hk' => ?_, fun s d hd => ?_, h.base, h.pin⟩
  · by_cases e : i = id
    · subst e
      rw [lk_setO_same hid] at hx; cases hx
      refine ⟨?_, (h.own i c hid).2⟩
      unfold OwnOk
      rw [hb]
      exact ⟨arr, T, fz, hblk, hsize, hfz, hlen, fun j v d hv hd => ⟨(hcs j v d hv hd).1.mono hw hF, (hcs j v d hv hd).2⟩⟩
    · rw [lk_setO_other e] at hx
      refine ⟨(h.own i x hx).1.mono hw hF fun k hk => hoth k fun e2 => e (h.inj i id x c b hx hid (by rw [hk, e2]) hb), (h.own i x hx).2⟩
  · have key : ∀ j y, lk j (setO id cs S.own) = some y → ∃ z, lk j S.own = some z := by
      intro j y hy
      by_cases e : j = id
      · subst e; exact ⟨c, hid⟩
      · exact ⟨y, by rwa [lk_setO_other e] at hy⟩
    obtain ⟨z, hz⟩ := key i x hx
    obtain ⟨z', hz'⟩ := key i' x' hx'
    exact h.inj i i' z z' k hz hz' hk hk'
  · obtain ⟨v, hv, hr⟩ := h.env s d hd
    exact ⟨v, hv, hr.mono hw hF⟩

/-- .. or it is laid anew, elsewhere, with more cells. -/
theorem SatC.regrow {w0 : Bas} {w : World} {φ : Loc} {S : St} {tmps : Array Value} (h : SatC w0 φ S tmps w) {id : Nat} {c cs : List D} (arr : Array Value) (T : TypeId)
    (hid : lk id S.own = some c) (hlen : cs.length ≤ arr.size)
    (hcs : ∀ (i : Nat) (v : Value) (d : D), arr[i]? = some v → cs[i]? = some d → Rep φ w (FSx φ S.own w) v d ∧ v.oneCell' = true ∧ mn id d = false) (hnm : NM id S.own) :
    SatC w0 (Abs.upd φ id (some w.heap.size, arr.size)) ⟨S.n, S.nx, purge id S.env, setO id cs S.own⟩ tmps (w.alloc (.cells arr T)) := by
  have hw : ∀ b, FSx φ S.own w b → (w.alloc (.cells arr T)).heap[b]? = w.heap[b]? := fun b hb => Below.heap_alloc _ _ _ hb.1
  have hF : ∀ b, FSx φ S.own w b → FSx (Abs.upd φ id (some w.heap.size, arr.size)) (setO id cs S.own) (w.alloc (.cells arr T)) b := fun b hb => by
    refine ⟨Nat.lt_of_lt_of_le hb.1 (by simp), fun i x hx => ?_, hb.3⟩
    by_cases e : i = id
    · subst e; rw [upd_same]; intro e; have := hb.1; simp at e; omega
    · rw [upd_other _ _ e]; rw [lk_setO_other e] at hx; exact hb.2 i x hx
  refine ⟨h.below.alloc _, h.size, fun i x hx => ?_, fun i i' x x' b hx hx' hb hb' => ?_, fun s d hd => ?_, h.base, fun i hi => by rw [upd_other _ _ (by have := hnm.lt; omega)]; exact h.pin i hi⟩
  · by_cases e : i = id
    · subst e
      rw [lk_setO_same hid] at hx; cases hx
      refine ⟨?_, fun b hb => by rw [upd_same] at hb; cases hb; exact .inl h.below.size⟩
      unfold OwnOk
      rw [upd_same]
      exact ⟨arr, T, (0, 0), heap_alloc_new w _, rfl, fun o _ => by simp, hlen, fun j v d hv hd => ⟨((hcs j v d hv hd).1.mono hw hF).upd (hcs j v d hv hd).2.2, (hcs j v d hv hd).2.1⟩⟩
    · rw [lk_setO_other e] at hx
      obtain ⟨h1, h2⟩ := h.own i x hx
      refine ⟨?_, fun b hb => h2 b (by rwa [upd_other _ _ e] at hb)⟩
      unfold OwnOk at h1 ⊢
      rw [upd_other _ _ e]
      split
      · rename_i e1; rw [e1] at h1; exact ⟨fun j d hd => by obtain ⟨v, a1, a2⟩ := h1.1 j d hd; exact ⟨v, a1, (a2.mono hw hF).upd (hnm.nm i x hx e d (List.mem_of_getElem? hd))⟩, h1.2⟩
      · rename_i b e1
        rw [e1] at h1
        obtain ⟨arr', T', fz', k1, k2, k3, k4, k5⟩ := h1
        exact ⟨arr', T', fz', (Below.heap_alloc _ _ _ (Array.getElem?_eq_some_iff.1 k1).1).trans k1, k2, k3, k4, fun j v d hv hd =>
          ⟨((k5 j v d hv hd).1.mono hw hF).upd (hnm.nm i x hx e d (List.mem_of_getElem? hd)), (k5 j v d hv hd).2⟩⟩
  · have key : ∀ j y, lk j (setO id cs S.own) = some y → (Abs.upd φ id (some w.heap.size, arr.size) j).1 = some b → (j = id ∧ b = w.heap.size) ∨ (j ≠ id ∧ lk j S.own = some y ∧ (φ j).1 = some b ∧ b < w.heap.size) := by
      intro j y hj hbj
      by_cases e : j = id
      · subst e; rw [upd_same] at hbj; cases hbj; exact .inl ⟨rfl, rfl⟩
      · rw [upd_other _ _ e] at hbj; rw [lk_setO_other e] at hj; exact .inr ⟨e, hj, hbj, (h.own j _ hj).1.lt hbj⟩
    rcases key i x hx hb with ⟨e1, e2⟩ | ⟨e1, e2, e3, e4⟩ <;> rcases key i' x' hx' hb' with ⟨f1, f2⟩ | ⟨f1, f2, f3, f4⟩
    · rw [e1, f1]
    · omega
    · omega
    · exact h.inj i i' x x' b e2 f2 e3 f3
  · rcases lk_purge hd with ⟨rfl, d', hd'⟩ | ⟨hd', hm⟩
    · obtain ⟨v, hv, _⟩ := h.env s d' hd'
      exact ⟨v, hv, .ro (.any v)⟩
    · obtain ⟨v, hv, hr⟩ := h.env s d hd'
      exact ⟨v, hv, (hr.mono hw hF).upd hm⟩

#print axioms SatC.regrow
end Go.Abs
