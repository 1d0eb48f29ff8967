/-
  AN ABSTRACT WALK. This text: data that a value stands for (D), what it means in a world (RepR, Rep), the state of a walk (St) and when a machine's frame and world fit it (SatC). No program in sight.
-/
import Derived.WalkKit
namespace Go.Abs
open Go.RowKit (Below)

/-- What is known of a value. 'any': nothing. 'sl': a slice that is only read ('n' elements of 'sz' cells); 'slx': one whose capacity is its length; 'rop': a pointer into cells that are only read; 'ptr', 'osl', 'osw': a pointer, a growing slice, a window into a block of the call's own, by its number; 'oag', 'ofn': a struct, a function value that may hold such ones. 'yld': what a range over a function hands to it (the loop's record: block l). -/
inductive D where
  | any
  | int (k : IntKind) (n : Int)
  | bool (b : Bool)
  | str (s : List UInt8)
  | nils
  | agg (cs : List D)
  | tup (ds : List D)
  | sl (sz n : Nat) (cs : List D)
  | slx (sz n : Nat) (cs : List D)
  | rop (cs : List D) (off : Nat)
  | fn (f : FuncId) (caps : List D)
  | ptr (id off : Nat)
  | osl (id sz n : Nat)
  | osw (id off sz n : Nat)
  | oag (cs : List D)
  | ofn (f : FuncId) (caps : List D)
  | yld (l : Nat)

/-- The value 'v' reads as 'd' in 'w'; all that is read lies in blocks of which F holds. -/
inductive RepR (w : World) (F : Nat → Prop) : Value → D → Prop
  | any (v : Value) : RepR w F v .any
  | int {k : IntKind} {n : Int} : k.min ≤ n → n ≤ k.max → RepR w F (.int k n) (.int k n)
  | bool {b : Bool} : RepR w F (.bool b) (.bool b)
  | str {b : ByteArray} {s : List UInt8} : b.data.toList = s → s.length ≤ maxLen → RepR w F (.string b) (.str s)
  | nils : RepR w F (.slice none 0 0) .nils
  | agg {vs : Array Value} {ds : List D} : vs.size = ds.length → (∀ (i : Nat) (v : Value), vs[i]? = some v → v.oneCell' = true) → (∀ (i : Nat) (v : Value) (d : D), vs[i]? = some v → ds[i]? = some d → RepR w F v d) → RepR w F (.agg vs) (.agg ds)
  | tup {vs : Array Value} {ds : List D} : vs.size = ds.length → (∀ (i : Nat) (v : Value) (d : D), vs[i]? = some v → ds[i]? = some d → RepR w F v d) → RepR w F (.tuple vs) (.tup ds)
  | sl0 {sz c : Nat} {p : Option Addr} : c ≤ maxLen → RepR w F (.slice p 0 c) (.sl sz 0 [])
  | sl {a : Addr} {c sz n : Nat} {cs : List D} (g : Nat → Value) : a.spot = none → F a.block → n ≤ c → c ≤ maxLen → cs.length = n * sz →
      (∀ (j : Nat), j < n * sz → w.cell? ⟨a.block, a.off + j, none⟩ = some (g j) ∧ (g j).oneCell' = true) → (∀ (j : Nat) (d : D), cs[j]? = some d → RepR w F (g j) d) → RepR w F (.slice (some a) n c) (.sl sz n cs)
  | slx0 {sz : Nat} {p : Option Addr} : RepR w F (.slice p 0 0) (.slx sz 0 [])
  | slx {a : Addr} {sz n : Nat} {cs : List D} (g : Nat → Value) : a.spot = none → F a.block → n ≤ maxLen → cs.length = n * sz →
      (∀ (j : Nat), j < n * sz → w.cell? ⟨a.block, a.off + j, none⟩ = some (g j) ∧ (g j).oneCell' = true) → (∀ (j : Nat) (d : D), cs[j]? = some d → RepR w F (g j) d) → RepR w F (.slice (some a) n n) (.slx sz n cs)
  | rop {b base off : Nat} {cs : List D} (g : Nat → Value) : F b →
      (∀ (j : Nat), j < cs.length → w.cell? ⟨b, base + j, none⟩ = some (g j) ∧ (g j).oneCell' = true) → (∀ (j : Nat) (d : D), cs[j]? = some d → RepR w F (g j) d) → RepR w F (.pointer (some ⟨b, base + off, none⟩)) (.rop cs off)
  | fn {f : FuncId} {vs : Array Value} {ds : List D} : vs.size = ds.length → (∀ (i : Nat) (v : Value) (d : D), vs[i]? = some v → ds[i]? = some d → RepR w F v d) → RepR w F (.func (.func f) #[] vs) (.fn f ds)
  | yld {l : Nat} : RepR w F (.func (.yield l) #[] #[]) (.yld l)

theorem RepR.mono {w w' : World} {F F' : Nat → Prop} {v : Value} {d : D} (h : RepR w F v d) (hw : ∀ b, F b → w'.heap[b]? = w.heap[b]?) (hF : ∀ b, F b → F' b) : RepR w' F' v d := by
  induction h with
  | any v => exact .any v
  | int a b => exact .int a b
  | bool => exact .bool
  | str a b => exact .str a b
  | nils => exact .nils
  | agg a b c ih => exact .agg a b ih
  | tup a b ih => exact .tup a ih
  | sl0 h => exact .sl0 h
  | sl g a b c d e f _ ih => exact .sl g a (hF _ b) c d e (fun j hj => ⟨by rw [← (f j hj).1]; exact World.cell?_of_block (hw _ b), (f j hj).2⟩) ih
  | slx0 => exact .slx0
  | slx g a b c d e _ ih => exact .slx g a (hF _ b) c d (fun j hj => ⟨by rw [← (e j hj).1]; exact World.cell?_of_block (hw _ b), (e j hj).2⟩) ih
  | rop g a b _ ih => exact .rop g (hF _ a) (fun j hj => ⟨by rw [← (b j hj).1]; exact World.cell?_of_block (hw _ a), (b j hj).2⟩) ih
  | fn a b ih => exact .fn a ih
  | yld => exact .yld

/-- The blocks that a call may know of; and the slots of the frames of its callers that it goes on for ('gh', by a number and a place). -/
structure BaseT where
  mem : Nat → Prop
  gh : Nat → Nat → Option Value
instance : CoeFun BaseT fun _ => Nat → Prop := ⟨BaseT.mem⟩

/-- Where a block of the call's own lies (none: it has none yet), and how many cells it has. -/
structure Loc where
  at_ : Nat → Option Nat × Nat
  base : BaseT
instance : CoeFun Loc fun _ => Nat → Option Nat × Nat := ⟨Loc.at_⟩

inductive Rep (φ : Loc) (w : World) (F : Nat → Prop) : Value → D → Prop
  | ro {v : Value} {d : D} : RepR w F v d → Rep φ w F v d
  | ptr {id off b : Nat} : (φ id).1 = some b → Rep φ w F (.pointer (some ⟨b, off, none⟩)) (.ptr id off)
  | osl0 {id sz : Nat} {p : Option Addr} : (φ id).1 = none → Rep φ w F (.slice p 0 0) (.osl id sz 0)
  | osl {id sz n c b : Nat} : (φ id).1 = some b → c * sz = (φ id).2 → n ≤ c → c ≤ maxLen → Rep φ w F (.slice (some ⟨b, 0, none⟩) n c) (.osl id sz n)
  | osw0 {id off sz c : Nat} {p : Option Addr} : c ≤ maxLen → Rep φ w F (.slice p 0 c) (.osw id off sz 0)
  | osw {id off sz n c b : Nat} : (φ id).1 = some b → n ≤ c → c ≤ maxLen → off + c * sz ≤ (φ id).2 → Rep φ w F (.slice (some ⟨b, off, none⟩) n c) (.osw id off sz n)
  | oag {vs : Array Value} {ds : List D} : vs.size = ds.length → (∀ (i : Nat) (v : Value), vs[i]? = some v → v.oneCell' = true) → (∀ (i : Nat) (v : Value) (d : D), vs[i]? = some v → ds[i]? = some d → Rep φ w F v d) → Rep φ w F (.agg vs) (.oag ds)
  | ofn {f : FuncId} {vs : Array Value} {ds : List D} : vs.size = ds.length → (∀ (i : Nat) (v : Value) (d : D), vs[i]? = some v → ds[i]? = some d → Rep φ w F v d) → Rep φ w F (.func (.func f) #[] vs) (.ofn f ds)

theorem Rep.mono {φ : Loc} {w w' : World} {F F' : Nat → Prop} {v : Value} {d : D} (h : Rep φ w F v d) (hw : ∀ b, F b → w'.heap[b]? = w.heap[b]?) (hF : ∀ b, F b → F' b) : Rep φ w' F' v d := by
  induction h with
  | ro h => exact .ro (h.mono hw hF)
  | ptr a => exact .ptr a
  | osl0 a => exact .osl0 a
  | osl a b c d => exact .osl a b c d
  | osw0 a => exact .osw0 a
  | osw a b c d => exact .osw a b c d
  | oag a b c ih => exact .oag a b ih
  | ofn a b ih => exact .ofn a ih

theorem Rep.at {φ φ' : Loc} {w : World} {F : Nat → Prop} {v : Value} {d : D} (h : Rep φ w F v d) (e : ∀ i, φ' i = φ i) : Rep φ' w F v d := by
  induction h with
  | ro h => exact .ro h
  | ptr a => exact .ptr (by rw [e]; exact a)
  | osl0 a => exact .osl0 (by rw [e]; exact a)
  | osl a b c d => exact .osl (by rw [e]; exact a) (by rw [e]; exact b) c d
  | osw0 a => exact .osw0 a
  | osw a b c d => exact .osw (by rw [e]; exact a) b c (by rw [e]; exact d)
  | oag a b c ih => exact .oag a b ih
  | ofn a b ih => exact .ofn a ih

/-- Does 'd' name the own block 'id'? (Deeper than a struct's parts: yes, for safety.) -/
def mnS (id : Nat) : D → Bool
  | .ptr i _ | .osl i _ _ | .osw i _ _ _ => i == id
  | .oag _ | .ofn _ _ => true
  | _ => false
def mn (id : Nat) : D → Bool
  | .ptr i _ | .osl i _ _ | .osw i _ _ _ => i == id
  | .oag cs | .ofn _ cs => cs.any (mnS id)
  | _ => false

theorem mnS_of_mn {id : Nat} {d : D} (h : mnS id d = false) : mn id d = false := by
  cases d <;> simp_all [mn, mnS]

/-- The place of 'id' is turned to 'x': what does not name 'id' reads as before. -/
def upd (φ : Loc) (id : Nat) (x : Option Nat × Nat) : Loc := { φ with at_ := fun i => if i = id then x else φ i }
theorem upd_same (φ : Loc) (id : Nat) (x : Option Nat × Nat) : upd φ id x id = x := by simp [upd]
theorem upd_other (φ : Loc) {id i : Nat} (x : Option Nat × Nat) (h : i ≠ id) : upd φ id x i = φ i := by simp [upd, h]

theorem Rep.updS {φ : Loc} {w : World} {F : Nat → Prop} {v : Value} {d : D} {id : Nat} {x : Option Nat × Nat} (h : Rep φ w F v d) (hm : mnS id d = false) : Rep (upd φ id x) w F v d := by
  cases h with
  | ro h => exact .ro h
  | ptr a => exact .ptr (by rw [upd_other _ _ (by simpa [mnS] using hm)]; exact a)
  | osl0 a => exact .osl0 (by rw [upd_other _ _ (by simpa [mnS] using hm)]; exact a)
  | osl a b c d => exact .osl (by rw [upd_other _ _ (by simpa [mnS] using hm)]; exact a) (by rw [upd_other _ _ (by simpa [mnS] using hm)]; exact b) c d
  | osw0 a => exact .osw0 a
  | osw a b c d => exact .osw (by rw [upd_other _ _ (by simpa [mnS] using hm)]; exact a) b c (by rw [upd_other _ _ (by simpa [mnS] using hm)]; exact d)
  | oag a b c => simp [mnS] at hm
  | ofn a b => simp [mnS] at hm

theorem Rep.upd {φ : Loc} {w : World} {F : Nat → Prop} {v : Value} {d : D} {id : Nat} {x : Option Nat × Nat} (h : Rep φ w F v d) (hm : mn id d = false) : Rep (upd φ id x) w F v d := by
  cases h with
  | ro h => exact .ro h
  | ptr a => exact Rep.updS (.ptr a) (by simpa [mnS, mn] using hm)
  | osl0 a => exact Rep.updS (.osl0 a) (by simpa [mnS, mn] using hm)
  | osl a b c d => exact Rep.updS (.osl a b c d) (by simpa [mnS, mn] using hm)
  | osw0 a => exact .osw0 a
  | osw a b c d => exact Rep.updS (.osw a b c d) (by simpa [mnS, mn] using hm)
  | oag a b c => exact .oag a b fun i v d hv hd => (c i v d hv hd).updS (by simp [mn] at hm; exact hm d (List.mem_of_getElem? hd))
  | ofn a b => exact .ofn a fun i v d hv hd => (b i v d hv hd).updS (by simp [mn] at hm; exact hm d (List.mem_of_getElem? hd))

/-! ### The state of a walk -/
def lk {α : Type} (k : Nat) : List (Nat × α) → Option α
  | [] => none
  | (i, x) :: r => if k = i then some x else lk k r

/-- 'n': how many slots the frame has; 'nx': the number of the next own block; what the slots hold; the own blocks. -/
structure St where
  n : Nat
  nx : Nat
  env : List (Nat × D)
  own : List (Nat × List D)

/-- The blocks that are there, that this call may know of, and that nobody writes. -/
structure FSx (φ : Loc) (own : List (Nat × List D)) (w : World) (b : Nat) : Prop where
  lt : b < w.heap.size
  no : ∀ id c, lk id own = some c → (φ id).1 ≠ some b
  base : φ.base b

/-- Where a call began: the world; the blocks that its arguments lead to; the package's variables that it may read. -/
abbrev Glob := List (Nat × List D)
structure Bas where
  w : World
  base : BaseT
  G : Glob
  new : ∀ b, w.heap.size ≤ b → base b
  lent : Nat → Prop
  loc : Nat → Option Nat × Nat
  loc0 : ∀ i, loc i = (none, 0)
  lb : ∀ b, lent b → base b ∧ b < w.heap.size
  gok : ∀ g cs, lk g G = some cs → RepR w (fun b => base b ∧ b < w.heap.size ∧ ¬ lent b) (.pointer (some ⟨g, 0, none⟩)) (.rop cs 0)

/-- Own blocks from this number on are such as were lent to this call: they stay where they are. -/
def pinB : Nat := 1000000
/-- The world has come from where the call began; only what was lent to it has turned. -/
structure Bel (b0 : Bas) (w : World) : Prop where
  os : w.os = b0.w.os
  tape : w.tape = b0.w.tape
  output : w.output = b0.w.output
  size : b0.w.heap.size ≤ w.heap.size
  block : ∀ k, k < b0.w.heap.size → ¬ b0.lent k → w.heap[k]? = b0.w.heap[k]?
theorem Bel.refl (b0 : Bas) : Bel b0 b0.w := ⟨rfl, rfl, rfl, Nat.le_refl _, fun _ _ _ => rfl⟩
theorem Bel.ext {b0 : Bas} {w w' : World} (h : Bel b0 w) (hb : Below w.heap.size w w') : Bel b0 w' :=
  ⟨hb.os.trans h.os, hb.tape.trans h.tape, hb.output.trans h.output, Nat.le_trans h.size hb.size, fun k hk hl => (hb.block k (Nat.lt_of_lt_of_le hk h.size)).trans (h.block k hk hl)⟩
theorem Bel.alloc {b0 : Bas} {w : World} (h : Bel b0 w) (o : Obj) : Bel b0 (w.alloc o) := h.ext ((Below.refl _ _).alloc (Nat.le_refl _) _)
theorem Bel.below {b0 : Bas} {w : World} (h : Bel b0 w) (hl : ∀ b, ¬ b0.lent b) : Below b0.w.heap.size b0.w w := ⟨h.os, h.tape, h.output, h.size, fun k hk => h.block k hk (hl k)⟩

def OwnOk (w : World) (F : Nat → Prop) (φ : Loc) (id : Nat) (cs : List D) : Prop :=
  match (φ id).1 with
  | none => (∀ (i : Nat) (d : D), cs[i]? = some d → ∃ v, φ.base.gh id i = some v ∧ Rep φ w F v d) ∧ (φ id).2 = 0
  | some b => ∃ arr T fz, w.heap[b]? = some (.cells arr T fz) ∧ arr.size = (φ id).2 ∧ (∀ o, o < arr.size → ¬ (fz.1 ≤ o ∧ o < fz.2)) ∧ cs.length ≤ arr.size ∧
      ∀ (i : Nat) (v : Value) (d : D), arr[i]? = some v → cs[i]? = some d → Rep φ w F v d ∧ v.oneCell' = true

structure SatC (w0 : Bas) (φ : Loc) (S : St) (tmps : Array Value) (w : World) : Prop where
  below : Bel w0 w
  size : tmps.size = S.n
  own : ∀ id c, lk id S.own = some c → OwnOk w (FSx φ S.own w) φ id c ∧ ∀ b, (φ id).1 = some b → w0.w.heap.size ≤ b ∨ w0.lent b
  inj : ∀ id id' c c' b, lk id S.own = some c → lk id' S.own = some c' → (φ id).1 = some b → (φ id').1 = some b → id = id'
  env : ∀ s d, lk s S.env = some d → ∃ v, tmps[s]? = some v ∧ Rep φ w (FSx φ S.own w) v d
  base : φ.base = w0.base
  pin : ∀ i, pinB ≤ i → φ i = w0.loc i

theorem SatC.newBase {w0 : Bas} {φ : Loc} {S : St} {tmps : Array Value} {w : World} (h : SatC w0 φ S tmps w) : φ.base w.heap.size := by
  rw [h.base]; exact w0.new _ h.below.size

def Sat (w0 : Bas) (S : St) (a : Act) (w : World) : Prop := a.defers = [] ∧ ∃ φ, SatC w0 φ S a.tmps w
/-- .. and besides the value 'v' is 'd'. -/
def SatV (w0 : Bas) (S : St) (a : Act) (w : World) (v : Value) (d : D) : Prop := a.defers = [] ∧ ∃ φ, SatC w0 φ S a.tmps w ∧ Rep φ w (FSx φ S.own w) v d

theorem OwnOk.lt {w : World} {F : Nat → Prop} {φ : Loc} {id : Nat} {cs : List D} (h : OwnOk w F φ id cs) {b : Nat} (hb : (φ id).1 = some b) : b < w.heap.size := by
  unfold OwnOk at h
  rw [hb] at h
  obtain ⟨arr, T, fz, hh, _⟩ := h
  exact (Array.getElem?_eq_some_iff.1 hh).1

theorem OwnOk.mono {w w' : World} {F F' : Nat → Prop} {φ : Loc} {id : Nat} {cs : List D} (h : OwnOk w F φ id cs) (hw : ∀ b, F b → w'.heap[b]? = w.heap[b]?) (hF : ∀ b, F b → F' b)
    (hb : ∀ b, (φ id).1 = some b → w'.heap[b]? = w.heap[b]?) : OwnOk w' F' φ id cs := by
  unfold OwnOk at *
  split
  · rename_i e; rw [e] at h; exact ⟨fun i d hd => by obtain ⟨v, h1, h2⟩ := h.1 i d hd; exact ⟨v, h1, h2.mono hw hF⟩, h.2⟩
  · rename_i b e
    rw [e] at h
    obtain ⟨arr, T, fz, h1, h2, h3, h4, h5⟩ := h
    exact ⟨arr, T, fz, (hb b e).trans h1, h2, h3, h4, fun i v d hv hd => ⟨(h5 i v d hv hd).1.mono hw hF, (h5 i v d hv hd).2⟩⟩

/-- The world has grown, nothing that was there has turned: the state stands. -/
theorem SatC.ext {w0 : Bas} {w w' : World} {φ : Loc} {S : St} {tmps : Array Value} (h : SatC w0 φ S tmps w) (hb : Below w.heap.size w w') : SatC w0 φ S tmps w' := by
  have hF : ∀ b, FSx φ S.own w b → FSx φ S.own w' b := fun b hb' => ⟨Nat.lt_of_lt_of_le hb'.1 hb.size, hb'.2, hb'.3⟩
  have hw : ∀ b, FSx φ S.own w b → w'.heap[b]? = w.heap[b]? := fun b hb' => hb.block b hb'.1
  refine ⟨h.below.ext hb, h.size, fun id c hc => ⟨((h.own id c hc).1).mono hw hF fun b hb' => hb.block b ((h.own id c hc).1.lt hb'), (h.own id c hc).2⟩, h.inj, fun s d hd => ?_, h.base, h.pin⟩
  obtain ⟨v, hv, hr⟩ := h.env s d hd
  exact ⟨v, hv, hr.mono hw hF⟩

theorem FSx.ext {φ : Loc} {own : List (Nat × List D)} {w w' : World} (hb : Below w.heap.size w w') {b : Nat} (h : FSx φ own w b) : FSx φ own w' b := ⟨Nat.lt_of_lt_of_le h.1 hb.size, h.2, h.3⟩
theorem Rep.ext {φ : Loc} {own : List (Nat × List D)} {w w' : World} {v : Value} {d : D} (h : Rep φ w (FSx φ own w) v d) (hb : Below w.heap.size w w') : Rep φ w' (FSx φ own w') v d :=
  h.mono (fun b hb' => hb.block b hb'.1) fun _ => FSx.ext hb

/-- A slot is written. -/
theorem SatC.put {w0 : Bas} {w : World} {φ : Loc} {S : St} {tmps : Array Value} (h : SatC w0 φ S tmps w) {s : Nat} {v : Value} {d : D} (hs : s < S.n) (hr : Rep φ w (FSx φ S.own w) v d) :
    SatC w0 φ { S with env := (s, d) :: S.env } (tmps.setIfInBounds s v) w := by
  refine ⟨h.below, by simpa using h.size, h.own, h.inj, fun t e he => ?_, h.base, h.pin⟩
  simp only [lk] at he
  split at he
  · rename_i e1
    cases he; subst e1
    exact ⟨v, by rw [Array.getElem?_setIfInBounds_self_of_lt (by rw [h.size]; exact hs)], hr⟩
  · rename_i e1
    obtain ⟨u, hu, hr'⟩ := h.env t e he
    exact ⟨u, by rw [Array.getElem?_setIfInBounds_ne (fun x => e1 x.symm)]; exact hu, hr'⟩

/-- A slot of which nothing is known. -/
theorem SatC.putAny {w0 : Bas} {w : World} {φ : Loc} {S : St} {tmps : Array Value} (h : SatC w0 φ S tmps w) (s : Nat) (v : Value) :
    SatC w0 φ { S with env := (s, .any) :: S.env } (tmps.setIfInBounds s v) w ∨ tmps.size ≤ s := by
  by_cases hs : s < S.n
  · exact .inl (h.put hs (.ro (.any v)))
  · exact .inr (by rw [h.size]; omega)

#print axioms SatC.put
end Go.Abs
