/-
  AN ABSTRACT WALK. This text: data that a value stands for (D), what it means in a world (RepR, Rep), the state of a walk (St) and when a machine's frame and world fit it (SatC). No program in sight.
-/
import Derived.WalkKit
import Derived.Laws.IdiomCopy
section
namespace Go.Abs
open Go.RowKit (Below)

/-- What is known of a value. 'any': nothing. 'sl': a slice that is only read ('n' elements of 'sz' cells); 'slx': one whose capacity is its length; 'rop': a pointer into cells that are only read; 'ptr', 'osl', 'osw': a pointer, a growing slice, a window into a block of the call's own, by its number; 'oag', 'ofn': a struct, a function value that may hold such ones. 'yld': what a range over a function hands to it (the loop's record: block l). -/
inductive D where
  | any
  | int (k : IntKind) (n : Int)
  | bool (b : Bool)
  | str (s : List UInt8)
  | nils
  | agg (cs : List D)
  | tup (ds : List D)
  | sl (sz n : Nat) (cs : List D)
  | slx (sz n : Nat) (cs : List D)
  | rop (cs : List D) (off : Nat)
  | fn (f : FuncId) (caps : List D)
  | ptr (id off : Nat)
  | osl (id sz n : Nat)
  | osw (id off sz n : Nat)
  | oag (cs : List D)
  | ofn (f : FuncId) (caps : List D)
  | yld (l : Nat)

/-- The value 'v' reads as 'd' in 'w'; all that is read lies in blocks of which F holds. -/
inductive RepR (w : World) (F : Nat → Prop) : Value → D → Prop
  | any (v : Value) : RepR w F v .any
  | int {k : IntKind} {n : Int} : k.min ≤ n → n ≤ k.max → RepR w F (.int k n) (.int k n)
  | bool {b : Bool} : RepR w F (.bool b) (.bool b)
  | str {b : ByteArray} {s : List UInt8} : b.data.toList = s → s.length ≤ maxLen → RepR w F (.string b) (.str s)
  | nils : RepR w F (.slice none 0 0) .nils
  | agg {vs : Array Value} {ds : List D} : vs.size = ds.length → (∀ (i : Nat) (v : Value), vs[i]? = some v → v.oneCell' = true) → (∀ (i : Nat) (v : Value) (d : D), vs[i]? = some v → ds[i]? = some d → RepR w F v d) → RepR w F (.agg vs) (.agg ds)
  | tup {vs : Array Value} {ds : List D} : vs.size = ds.length → (∀ (i : Nat) (v : Value) (d : D), vs[i]? = some v → ds[i]? = some d → RepR w F v d) → RepR w F (.tuple vs) (.tup ds)
  | sl0 {sz c : Nat} {p : Option Addr} : c ≤ maxLen → RepR w F (.slice p 0 c) (.sl sz 0 [])
  | sl {a : Addr} {c sz n : Nat} {cs : List D} (g : Nat → Value) : a.spot = none → F a.block → n ≤ c → c ≤ maxLen → cs.length = n * sz →
      (∀ (j : Nat), j < n * sz → w.cell? ⟨a.block, a.off + j, none⟩ = some (g j) ∧ (g j).oneCell' = true) → (∀ (j : Nat) (d : D), cs[j]? = some d → RepR w F (g j) d) → RepR w F (.slice (some a) n c) (.sl sz n cs)
  | slx0 {sz : Nat} {p : Option Addr} : RepR w F (.slice p 0 0) (.slx sz 0 [])
  | slx {a : Addr} {sz n : Nat} {cs : List D} (g : Nat → Value) : a.spot = none → F a.block → n ≤ maxLen → cs.length = n * sz →
      (∀ (j : Nat), j < n * sz → w.cell? ⟨a.block, a.off + j, none⟩ = some (g j) ∧ (g j).oneCell' = true) → (∀ (j : Nat) (d : D), cs[j]? = some d → RepR w F (g j) d) → RepR w F (.slice (some a) n n) (.slx sz n cs)
  | rop {b base off : Nat} {cs : List D} (g : Nat → Value) : F b →
      (∀ (j : Nat), j < cs.length → w.cell? ⟨b, base + j, none⟩ = some (g j) ∧ (g j).oneCell' = true) → (∀ (j : Nat) (d : D), cs[j]? = some d → RepR w F (g j) d) → RepR w F (.pointer (some ⟨b, base + off, none⟩)) (.rop cs off)
  | fn {f : FuncId} {vs : Array Value} {ds : List D} : vs.size = ds.length → (∀ (i : Nat) (v : Value) (d : D), vs[i]? = some v → ds[i]? = some d → RepR w F v d) → RepR w F (.func (.func f) #[] vs) (.fn f ds)
  | yld {l : Nat} : RepR w F (.func (.yield l) #[] #[]) (.yld l)

theorem RepR.mono {w w' : World} {F F' : Nat → Prop} {v : Value} {d : D} (h : RepR w F v d) (hw : ∀ b, F b → w'.heap[b]? = w.heap[b]?) (hF : ∀ b, F b → F' b) : RepR w' F' v d := by
  induction h with
  | any v => exact .any v
  | int a b => exact .int a b
  | bool => exact .bool
  | str a b => exact .str a b
  | nils => exact .nils
  | agg a b c ih => exact .agg a b ih
  | tup a b ih => exact .tup a ih
  | sl0 h => exact .sl0 h
  | sl g a b c d e f _ ih => exact .sl g a (hF _ b) c d e (fun j hj => ⟨by rw [← (f j hj).1]; exact World.cell?_of_block (hw _ b), (f j hj).2⟩) ih
  | slx0 => exact .slx0
  | slx g a b c d e _ ih => exact .slx g a (hF _ b) c d (fun j hj => ⟨by rw [← (e j hj).1]; exact World.cell?_of_block (hw _ b), (e j hj).2⟩) ih
  | rop g a b _ ih => exact .rop g (hF _ a) (fun j hj => ⟨by rw [← (b j hj).1]; exact World.cell?_of_block (hw _ a), (b j hj).2⟩) ih
  | fn a b ih => exact .fn a ih
  | yld => exact .yld

/-- The blocks that a call may know of; and the slots of the frames of its callers that it goes on for ('gh', by a number and a place). -/
structure BaseT where
  mem : Nat → Prop
  gh : Nat → Nat → Option Value
instance : CoeFun BaseT fun _ => Nat → Prop := ⟨BaseT.mem⟩

/-- Where a block of the call's own lies (none: it has none yet), and how many cells it has. -/
structure Loc where
  at_ : Nat → Option Nat × Nat
  base : BaseT
instance : CoeFun Loc fun _ => Nat → Option Nat × Nat := ⟨Loc.at_⟩

inductive Rep (φ : Loc) (w : World) (F : Nat → Prop) : Value → D → Prop
  | ro {v : Value} {d : D} : RepR w F v d → Rep φ w F v d
  | ptr {id off b : Nat} : (φ id).1 = some b → Rep φ w F (.pointer (some ⟨b, off, none⟩)) (.ptr id off)
  | osl0 {id sz : Nat} {p : Option Addr} : (φ id).1 = none → Rep φ w F (.slice p 0 0) (.osl id sz 0)
  | osl {id sz n c b : Nat} : (φ id).1 = some b → c * sz = (φ id).2 → n ≤ c → c ≤ maxLen → Rep φ w F (.slice (some ⟨b, 0, none⟩) n c) (.osl id sz n)
  | osw0 {id off sz c : Nat} {p : Option Addr} : c ≤ maxLen → Rep φ w F (.slice p 0 c) (.osw id off sz 0)
  | osw {id off sz n c b : Nat} : (φ id).1 = some b → n ≤ c → c ≤ maxLen → off + c * sz ≤ (φ id).2 → Rep φ w F (.slice (some ⟨b, off, none⟩) n c) (.osw id off sz n)
  | oag {vs : Array Value} {ds : List D} : vs.size = ds.length → (∀ (i : Nat) (v : Value), vs[i]? = some v → v.oneCell' = true) → (∀ (i : Nat) (v : Value) (d : D), vs[i]? = some v → ds[i]? = some d → Rep φ w F v d) → Rep φ w F (.agg vs) (.oag ds)
  | ofn {f : FuncId} {vs : Array Value} {ds : List D} : vs.size = ds.length → (∀ (i : Nat) (v : Value) (d : D), vs[i]? = some v → ds[i]? = some d → Rep φ w F v d) → Rep φ w F (.func (.func f) #[] vs) (.ofn f ds)

theorem Rep.mono {φ : Loc} {w w' : World} {F F' : Nat → Prop} {v : Value} {d : D} (h : Rep φ w F v d) (hw : ∀ b, F b → w'.heap[b]? = w.heap[b]?) (hF : ∀ b, F b → F' b) : Rep φ w' F' v d := by
  induction h with
  | ro h => exact .ro (h.mono hw hF)
  | ptr a => exact .ptr a
  | osl0 a => exact .osl0 a
  | osl a b c d => exact .osl a b c d
  | osw0 a => exact .osw0 a
  | osw a b c d => exact .osw a b c d
  | oag a b c ih => exact .oag a b ih
  | ofn a b ih => exact .ofn a ih

theorem Rep.at {φ φ' : Loc} {w : World} {F : Nat → Prop} {v : Value} {d : D} (h : Rep φ w F v d) (e : ∀ i, φ' i = φ i) : Rep φ' w F v d := by
  induction h with
  | ro h => exact .ro h
  | ptr a => exact .ptr (by rw [e]; exact a)
  | osl0 a => exact .osl0 (by rw [e]; exact a)
  | osl a b c d => exact .osl (by rw [e]; exact a) (by rw [e]; exact b) c d
  | osw0 a => exact .osw0 a
  | osw a b c d => exact .osw (by rw [e]; exact a) b c (by rw [e]; exact d)
  | oag a b c ih => exact .oag a b ih
  | ofn a b ih => exact .ofn a ih

/-- Does 'd' name the own block 'id'? (Deeper than a struct's parts: yes, for safety.) -/
def mnS (id : Nat) : D → Bool
  | .ptr i _ | .osl i _ _ | .osw i _ _ _ => i == id
  | .oag _ | .ofn _ _ => true
  | _ => false
def mn (id : Nat) : D → Bool
  | .ptr i _ | .osl i _ _ | .osw i _ _ _ => i == id
  | .oag cs | .ofn _ cs => cs.any (mnS id)
  | _ => false

/-- The place of 'id' is turned to 'x': what does not name 'id' reads as before. -/
def upd (φ : Loc) (id : Nat) (x : Option Nat × Nat) : Loc := { φ with at_ := fun i => if i = id then x else φ i }
theorem upd_same (φ : Loc) (id : Nat) (x : Option Nat × Nat) : upd φ id x id = x := by simp [upd]
theorem upd_other (φ : Loc) {id i : Nat} (x : Option Nat × Nat) (h : i ≠ id) : upd φ id x i = φ i := by simp [upd, h]

theorem Rep.updS {φ : Loc} {w : World} {F : Nat → Prop} {v : Value} {d : D} {id : Nat} {x : Option Nat × Nat} (h : Rep φ w F v d) (hm : mnS id d = false) : Rep (upd φ id x) w F v d := by
  cases h with
  | ro h => exact .ro h
  | ptr a => exact .ptr (by rw [upd_other _ _ (by simpa [mnS] using hm)]; exact a)
  | osl0 a => exact .osl0 (by rw [upd_other _ _ (by simpa [mnS] using hm)]; exact a)
  | osl a b c d => exact .osl (by rw [upd_other _ _ (by simpa [mnS] using hm)]; exact a) (by rw [upd_other _ _ (by simpa [mnS] using hm)]; exact b) c d
  | osw0 a => exact .osw0 a
  | osw a b c d => exact .osw (by rw [upd_other _ _ (by simpa [mnS] using hm)]; exact a) b c (by rw [upd_other _ _ (by simpa [mnS] using hm)]; exact d)
  | oag a b c => simp [mnS] at hm
  | ofn a b => simp [mnS] at hm

theorem Rep.upd {φ : Loc} {w : World} {F : Nat → Prop} {v : Value} {d : D} {id : Nat} {x : Option Nat × Nat} (h : Rep φ w F v d) (hm : mn id d = false) : Rep (upd φ id x) w F v d := by
  cases h with
  | ro h => exact .ro h
  | ptr a => exact Rep.updS (.ptr a) (by simpa [mnS, mn] using hm)
  | osl0 a => exact Rep.updS (.osl0 a) (by simpa [mnS, mn] using hm)
  | osl a b c d => exact Rep.updS (.osl a b c d) (by simpa [mnS, mn] using hm)
  | osw0 a => exact .osw0 a
  | osw a b c d => exact Rep.updS (.osw a b c d) (by simpa [mnS, mn] using hm)
  | oag a b c => exact .oag a b fun i v d hv hd => (c i v d hv hd).updS (by simp [mn] at hm; exact hm d (List.mem_of_getElem? hd))
  | ofn a b => exact .ofn a fun i v d hv hd => (b i v d hv hd).updS (by simp [mn] at hm; exact hm d (List.mem_of_getElem? hd))

/-! ### The state of a walk -/
def lk {α : Type} (k : Nat) : List (Nat × α) → Option α
  | [] => none
  | (i, x) :: r => if k = i then some x else lk k r

/-- 'n': how many slots the frame has; 'nx': the number of the next own block; what the slots hold; the own blocks. -/
structure St where
  n : Nat
  nx : Nat
  env : List (Nat × D)
  own : List (Nat × List D)

/-- The blocks that are there, that this call may know of, and that nobody writes. -/
structure FSx (φ : Loc) (own : List (Nat × List D)) (w : World) (b : Nat) : Prop where
  lt : b < w.heap.size
  no : ∀ id c, lk id own = some c → (φ id).1 ≠ some b
  base : φ.base b

/-- Where a call began: the world; the blocks that its arguments lead to; the package's variables that it may read. -/
abbrev Glob := List (Nat × List D)
structure Bas where
  w : World
  base : BaseT
  G : Glob
  new : ∀ b, w.heap.size ≤ b → base b
  lent : Nat → Prop
  loc : Nat → Option Nat × Nat
  loc0 : ∀ i, loc i = (none, 0)
  lb : ∀ b, lent b → base b ∧ b < w.heap.size
  gok : ∀ g cs, lk g G = some cs → RepR w (fun b => base b ∧ b < w.heap.size ∧ ¬ lent b) (.pointer (some ⟨g, 0, none⟩)) (.rop cs 0)

/-- Own blocks from this number on are such as were lent to this call: they stay where they are. -/
def pinB : Nat := 1000000
/-- The world has come from where the call began; only what was lent to it has turned. -/
structure Bel (b0 : Bas) (w : World) : Prop where
  os : w.os = b0.w.os
  tape : w.tape = b0.w.tape
  output : w.output = b0.w.output
  size : b0.w.heap.size ≤ w.heap.size
  block : ∀ k, k < b0.w.heap.size → ¬ b0.lent k → w.heap[k]? = b0.w.heap[k]?
theorem Bel.refl (b0 : Bas) : Bel b0 b0.w := ⟨rfl, rfl, rfl, Nat.le_refl _, fun _ _ _ => rfl⟩
theorem Bel.ext {b0 : Bas} {w w' : World} (h : Bel b0 w) (hb : Below w.heap.size w w') : Bel b0 w' :=
  ⟨hb.os.trans h.os, hb.tape.trans h.tape, hb.output.trans h.output, Nat.le_trans h.size hb.size, fun k hk hl => (hb.block k (Nat.lt_of_lt_of_le hk h.size)).trans (h.block k hk hl)⟩
theorem Bel.alloc {b0 : Bas} {w : World} (h : Bel b0 w) (o : Obj) : Bel b0 (w.alloc o) := h.ext ((Below.refl _ _).alloc (Nat.le_refl _) _)
theorem Bel.below {b0 : Bas} {w : World} (h : Bel b0 w) (hl : ∀ b, ¬ b0.lent b) : Below b0.w.heap.size b0.w w := ⟨h.os, h.tape, h.output, h.size, fun k hk => h.block k hk (hl k)⟩

def OwnOk (w : World) (F : Nat → Prop) (φ : Loc) (id : Nat) (cs : List D) : Prop :=
  match (φ id).1 with
  | none => (∀ (i : Nat) (d : D), cs[i]? = some d → ∃ v, φ.base.gh id i = some v ∧ Rep φ w F v d) ∧ (φ id).2 = 0
  | some b => ∃ arr T fz, w.heap[b]? = some (.cells arr T fz) ∧ arr.size = (φ id).2 ∧ (∀ o, o < arr.size → ¬ (fz.1 ≤ o ∧ o < fz.2)) ∧ cs.length ≤ arr.size ∧
      ∀ (i : Nat) (v : Value) (d : D), arr[i]? = some v → cs[i]? = some d → Rep φ w F v d ∧ v.oneCell' = true

structure SatC (w0 : Bas) (φ : Loc) (S : St) (tmps : Array Value) (w : World) : Prop where
  below : Bel w0 w
  size : tmps.size = S.n
  own : ∀ id c, lk id S.own = some c → OwnOk w (FSx φ S.own w) φ id c ∧ ∀ b, (φ id).1 = some b → w0.w.heap.size ≤ b ∨ w0.lent b
  inj : ∀ id id' c c' b, lk id S.own = some c → lk id' S.own = some c' → (φ id).1 = some b → (φ id').1 = some b → id = id'
  env : ∀ s d, lk s S.env = some d → ∃ v, tmps[s]? = some v ∧ Rep φ w (FSx φ S.own w) v d
  base : φ.base = w0.base
  pin : ∀ i, pinB ≤ i → φ i = w0.loc i

theorem SatC.newBase {w0 : Bas} {φ : Loc} {S : St} {tmps : Array Value} {w : World} (h : SatC w0 φ S tmps w) : φ.base w.heap.size := by
  rw [h.base]; exact w0.new _ h.below.size

theorem OwnOk.lt {w : World} {F : Nat → Prop} {φ : Loc} {id : Nat} {cs : List D} (h : OwnOk w F φ id cs) {b : Nat} (hb : (φ id).1 = some b) : b < w.heap.size := by
  unfold OwnOk at h
  rw [hb] at h
  obtain ⟨arr, T, fz, hh, _⟩ := h
  exact (Array.getElem?_eq_some_iff.1 hh).1

theorem OwnOk.mono {w w' : World} {F F' : Nat → Prop} {φ : Loc} {id : Nat} {cs : List D} (h : OwnOk w F φ id cs) (hw : ∀ b, F b → w'.heap[b]? = w.heap[b]?) (hF : ∀ b, F b → F' b)
    (hb : ∀ b, (φ id).1 = some b → w'.heap[b]? = w.heap[b]?) : OwnOk w' F' φ id cs := by
  unfold OwnOk at *
  split
  · rename_i e; rw [e] at h; exact ⟨fun i d hd => by obtain ⟨v, h1, h2⟩ := h.1 i d hd; exact ⟨v, h1, h2.mono hw hF⟩, h.2⟩
  · rename_i b e
    rw [e] at h
    obtain ⟨arr, T, fz, h1, h2, h3, h4, h5⟩ := h
    exact ⟨arr, T, fz, (hb b e).trans h1, h2, h3, h4, fun i v d hv hd => ⟨(h5 i v d hv hd).1.mono hw hF, (h5 i v d hv hd).2⟩⟩

/-- The world has grown, nothing that was there has turned: the state stands. -/
theorem SatC.ext {w0 : Bas} {w w' : World} {φ : Loc} {S : St} {tmps : Array Value} (h : SatC w0 φ S tmps w) (hb : Below w.heap.size w w') : SatC w0 φ S tmps w' := by
  have hF : ∀ b, FSx φ S.own w b → FSx φ S.own w' b := fun b hb' => ⟨Nat.lt_of_lt_of_le hb'.1 hb.size, hb'.2, hb'.3⟩
  have hw : ∀ b, FSx φ S.own w b → w'.heap[b]? = w.heap[b]? := fun b hb' => hb.block b hb'.1
  refine ⟨h.below.ext hb, h.size, fun id c hc => ⟨((h.own id c hc).1).mono hw hF fun b hb' => hb.block b ((h.own id c hc).1.lt hb'), (h.own id c hc).2⟩, h.inj, fun s d hd => ?_, h.base, h.pin⟩
  obtain ⟨v, hv, hr⟩ := h.env s d hd
  exact ⟨v, hv, hr.mono hw hF⟩

theorem FSx.ext {φ : Loc} {own : List (Nat × List D)} {w w' : World} (hb : Below w.heap.size w w') {b : Nat} (h : FSx φ own w b) : FSx φ own w' b := ⟨Nat.lt_of_lt_of_le h.1 hb.size, h.2, h.3⟩
theorem Rep.ext {φ : Loc} {own : List (Nat × List D)} {w w' : World} {v : Value} {d : D} (h : Rep φ w (FSx φ own w) v d) (hb : Below w.heap.size w w') : Rep φ w' (FSx φ own w') v d :=
  h.mono (fun b hb' => hb.block b hb'.1) fun _ => FSx.ext hb

/-- A slot is written. -/
theorem SatC.put {w0 : Bas} {w : World} {φ : Loc} {S : St} {tmps : Array Value} (h : SatC w0 φ S tmps w) {s : Nat} {v : Value} {d : D} (hs : s < S.n) (hr : Rep φ w (FSx φ S.own w) v d) :
    SatC w0 φ { S with env := (s, d) :: S.env } (tmps.setIfInBounds s v) w := by
  refine ⟨h.below, by simpa using h.size, h.own, h.inj, fun t e he => ?_, h.base, h.pin⟩
  simp only [lk] at he
  split at he
  · rename_i e1
    cases he; subst e1
    exact ⟨v, by rw [Array.getElem?_setIfInBounds_self_of_lt (by rw [h.size]; exact hs)], hr⟩
  · rename_i e1
    obtain ⟨u, hu, hr'⟩ := h.env t e he
    exact ⟨u, by rw [Array.getElem?_setIfInBounds_ne (fun x => e1 x.symm)]; exact hu, hr'⟩

#print axioms SatC.put
end Go.Abs
end
section
namespace Go.Abs
open Go.RowKit (Below)

def inR (k : IntKind) (n : Int) : Prop := k.min ≤ n ∧ n ≤ k.max
theorem inR_i64 (n : Int) : inR .i64 n = (-9223372036854775808 ≤ n ∧ n ≤ 9223372036854775807) := rfl
theorem inR_i32 (n : Int) : inR .i32 n = (-2147483648 ≤ n ∧ n ≤ 2147483647) := rfl
theorem inR_i16 (n : Int) : inR .i16 n = (-32768 ≤ n ∧ n ≤ 32767) := rfl
theorem inR_i8 (n : Int) : inR .i8 n = (-128 ≤ n ∧ n ≤ 127) := rfl
theorem inR_u64 (n : Int) : inR .u64 n = (0 ≤ n ∧ n ≤ 18446744073709551615) := rfl
theorem inR_u32 (n : Int) : inR .u32 n = (0 ≤ n ∧ n ≤ 4294967295) := rfl
theorem inR_u16 (n : Int) : inR .u16 n = (0 ≤ n ∧ n ≤ 65535) := rfl
theorem inR_u8 (n : Int) : inR .u8 n = (0 ≤ n ∧ n ≤ 255) := rfl

theorem wrap_of_inR {k : IntKind} {n : Int} (h : inR k n) : k.wrap n = n := by
  cases k
  · exact IntWalk.i8_in n h
  · exact IntWalk.i16_in n h
  · exact IntWalk.i32_in n h
  · exact IntWalk.i64_in n h
  · exact IntWalk.u8_in n h
  · exact IntWalk.u16_in n h
  · exact IntWalk.u32_in n h
  · exact IntWalk.u64_in n h

theorem inR_wrap (k : IntKind) (n : Int) : inR k (k.wrap n) := by
  cases k <;> simp only [inR, IntKind.min, IntKind.max, IntKind.wrap, IntKind.signed, IntKind.bits] <;> simp <;> (try split) <;> omega

/-! ### Operands -/
def bD (b : UInt8) : D := .int .u8 b.toNat

def lkW (t : Nat) : List (Nat × D) → (D → Prop) → Prop
  | [], _ => False
  | (s, d) :: r, k => if t = s then k d else lkW t r k
theorem lkW_cons (t s : Nat) (d : D) (r : List (Nat × D)) (k : D → Prop) : lkW t ((s, d) :: r) k = if t = s then k d else lkW t r k := _root_.id rfl
theorem lkW_ok {t : Nat} {env : List (Nat × D)} {k : D → Prop} (h : lkW t env k) : ∃ d, lk t env = some d ∧ k d := by
  induction env with
  | nil => exact h.elim
  | cons p r ih =>
    obtain ⟨s, d⟩ := p
    rw [lkW_cons] at h
    simp only [lk]
    split at h
    · rename_i e; exact ⟨d, by rw [if_pos e], h⟩
    · rename_i e; rw [if_neg e]; exact ih h

/-- A scalar as data. -/
def dS : Value → D
  | .bool b => .bool b
  | .int k n => if k.min ≤ n ∧ n ≤ k.max then .int k n else .any
  | .string s => if s.data.toList.length ≤ maxLen then .str s.data.toList else .any
  | .slice none 0 0 => .nils
  | _ => .any
def constW (v : Value) (k : D → Prop) : Prop :=
  match v with
  | .bool b => k (.bool b)
  | .int kk n => inR kk n ∧ k (.int kk n)
  | .string s => s.data.toList.length ≤ maxLen ∧ k (.str s.data.toList)
  | .slice none 0 0 => k .nils
  | .agg vs => vs.all Value.oneCell' = true ∧ k (.agg (vs.toList.map dS))
  | _ => k .any
theorem constW_bool (b : Bool) (k : D → Prop) : constW (.bool b) k = k (.bool b) := _root_.id rfl
theorem constW_int (kk : IntKind) (n : Int) (k : D → Prop) : constW (.int kk n) k = (inR kk n ∧ k (.int kk n)) := _root_.id rfl
theorem constW_string (s : ByteArray) (k : D → Prop) : constW (.string s) k = (s.data.toList.length ≤ maxLen ∧ k (.str s.data.toList)) := _root_.id rfl
theorem constW_nils (k : D → Prop) : constW (.slice none 0 0) k = k .nils := _root_.id rfl
theorem constW_nilFunc (k : D → Prop) : constW .nilFunc k = k .any := _root_.id rfl
theorem dS_ok (w : World) (F : Nat → Prop) (v : Value) : RepR w F v (dS v) := by
  unfold dS
  split
  · exact .bool
  · split
    · rename_i h; exact .int h.1 h.2
    · exact .any _
  · split
    · rename_i h; exact .str rfl h
    · exact .any _
  · exact .nils
  · exact .any _

theorem constW_ok {w : World} {F : Nat → Prop} {v : Value} {k : D → Prop} (h : constW v k) : ∃ d, k d ∧ RepR w F v d := by
  unfold constW at h
  split at h
  · exact ⟨_, h, .bool⟩
  · exact ⟨_, h.2, .int h.1.1 h.1.2⟩
  · exact ⟨_, h.2, .str rfl h.1⟩
  · exact ⟨_, h, .nils⟩
  · rename_i vs
    refine ⟨_, h.2, .agg (by simp) ?_ ?_⟩
    · intro i v hv
      have := Array.all_eq_true.1 h.1
      obtain ⟨hi, rfl⟩ := Array.getElem?_eq_some_iff.1 hv
      exact this i hi
    · intro i v d hv hd
      simp only [List.getElem?_map, Array.getElem?_toList, hv, Option.map_some, Option.some.injEq] at hd
      subst hd
      exact dS_ok w F v
  · exact ⟨_, h, .any _⟩

def GOk (G : Glob) (w0 : Bas) : Prop := w0.G = G

def glW (g : Nat) : Glob → (D → Prop) → Prop
  | [], k => k .any
  | (s, cs) :: r, k => if g = s then k (.rop cs 0) else glW g r k
theorem glW_cons (g s : Nat) (cs : List D) (r : Glob) (k : D → Prop) : glW g ((s, cs) :: r) k = if g = s then k (.rop cs 0) else glW g r k := _root_.id rfl
theorem glW_ok {g : Nat} {G : Glob} {k : D → Prop} (h : glW g G k) : (∃ cs, lk g G = some cs ∧ k (.rop cs 0)) ∨ k .any := by
  induction G with
  | nil => exact .inr h
  | cons p r ih =>
    obtain ⟨s, cs⟩ := p
    rw [glW_cons] at h
    simp only [lk]
    split at h
    · rename_i e; exact .inl ⟨cs, by rw [if_pos e], h⟩
    · rename_i e; rw [if_neg e]; exact ih h

def evW (G : Glob) (S : St) (x : Operand) (k : D → Prop) : Prop :=
  match x with
  | .tmp t => lkW t S.env k
  | .const v => constW v k
  | .global g => glW g G k
  | .func f => k (.fn f [])
theorem evW_tmp (G : Glob) (n nx : Nat) (env : List (Nat × D)) (own : List (Nat × List D)) (t : Nat) (k : D → Prop) : evW G ⟨n, nx, env, own⟩ (.tmp t) k = lkW t env k := _root_.id rfl
theorem evW_const (G : Glob) (S : St) (v : Value) (k : D → Prop) : evW G S (.const v) k = constW v k := _root_.id rfl
theorem evW_global (G : Glob) (S : St) (g : Nat) (k : D → Prop) : evW G S (.global g) k = glW g G k := _root_.id rfl
theorem evW_func (G : Glob) (S : St) (f : Nat) (k : D → Prop) : evW G S (.func f) k = k (.fn f []) := _root_.id rfl

/-- What lay there when the call began, and belongs to the program, lies there still, and nobody writes it. -/
theorem glob_ok {G : Glob} {w0 : Bas} {w : World} {φ : Loc} {S : St} {tmps : Array Value} (hG : GOk G w0) (h : SatC w0 φ S tmps w) {g : Nat} {cs : List D} (hg : lk g G = some cs) :
    RepR w (FSx φ S.own w) (.pointer (some ⟨g, 0, none⟩)) (.rop cs 0) :=
  (w0.gok g cs (by rw [hG]; exact hg)).mono (fun b hb => h.below.block b hb.2.1 hb.2.2) fun b hb => ⟨Nat.lt_of_lt_of_le hb.2.1 h.below.size, fun id c hc e => by rcases (h.own id c hc).2 b e with h1 | h1; (have := hb.2.1; omega); exact hb.2.2 h1, by rw [h.base]; exact hb.1⟩

theorem evW_ok {G : Glob} {w0 : Bas} {w : World} {φ : Loc} {S : St} {a : Act} (hG : GOk G w0) (hs : SatC w0 φ S a.tmps w) {x : Operand} {k : D → Prop} (h : evW G S x k) :
    ∃ d, k d ∧ Rep φ w (FSx φ S.own w) (a.eval x) d := by
  unfold evW at h
  split at h
  · obtain ⟨d, hd, hk⟩ := lkW_ok h
    obtain ⟨v, hv, hr⟩ := hs.env _ _ hd
    exact ⟨d, hk, by simp only [Act.eval, Array.getD_eq_getD_getElem?, hv, Option.getD_some]; exact hr⟩
  · obtain ⟨d, hk, hr⟩ := constW_ok h
    exact ⟨d, hk, .ro hr⟩
  · rcases glW_ok h with ⟨cs, hg, hk⟩ | hk
    · exact ⟨_, hk, .ro (glob_ok hG hs hg)⟩
    · exact ⟨_, hk, .ro (.any _)⟩
  · exact ⟨_, h, .ro (.fn (by simp) (fun i v d hv _ => by simp at hv))⟩

/-! ### Inversions -/
section
variable {φ : Loc} {w : World} {F : Nat → Prop} {v : Value}
theorem Rep.int_inv {k : IntKind} {n : Int} (h : Rep φ w F v (.int k n)) : v = .int k n ∧ inR k n := by
  cases h with | ro h => cases h with | int a b => exact ⟨rfl, a, b⟩
theorem Rep.bool_inv {b : Bool} (h : Rep φ w F v (.bool b)) : v = .bool b := by
  cases h with | ro h => cases h; rfl
theorem Rep.str_inv {s : List UInt8} (h : Rep φ w F v (.str s)) : ∃ b, v = .string b ∧ b.data.toList = s ∧ s.length ≤ maxLen := by
  cases h with | ro h => cases h with | str a b => exact ⟨_, rfl, a, b⟩
theorem Rep.tup_inv {ds : List D} (h : Rep φ w F v (.tup ds)) : ∃ vs : Array Value, v = .tuple vs ∧ vs.size = ds.length ∧ (∀ (i : Nat) (v : Value) (d : D), vs[i]? = some v → ds[i]? = some d → RepR w F v d) := by
  cases h with | ro h => cases h with | tup a b => exact ⟨_, rfl, a, b⟩
end

/-! ### Arithmetic -/
/-- A sum, a difference, a product: exact where the kind is signed (that it fits is owed), cut where it is not. -/
def wrW (kk : IntKind) (n : Int) (k : D → Prop) : Prop :=
  match kk with
  | .i64 | .i32 | .i16 | .i8 => inR kk n ∧ k (.int kk n)
  | _ => k (.int kk (kk.wrap n))
theorem wrW_i64 (n : Int) (k : D → Prop) : wrW .i64 n k = (inR .i64 n ∧ k (.int .i64 n)) := _root_.id rfl
theorem wrW_u64 (n : Int) (k : D → Prop) : wrW .u64 n k = k (.int .u64 (IntKind.u64.wrap n)) := _root_.id rfl
theorem wrW_u32 (n : Int) (k : D → Prop) : wrW .u32 n k = k (.int .u32 (IntKind.u32.wrap n)) := _root_.id rfl
theorem wrW_u8 (n : Int) (k : D → Prop) : wrW .u8 n k = k (.int .u8 (IntKind.u8.wrap n)) := _root_.id rfl
theorem wrW_ok {kk : IntKind} {n : Int} {k : D → Prop} (h : wrW kk n k) : inR kk (kk.wrap n) ∧ k (.int kk (kk.wrap n)) := by
  refine ⟨inR_wrap kk n, ?_⟩
  cases kk <;> first | exact h | (rw [wrap_of_inR h.1]; exact h.2)

def isSigned : IntKind → Bool
  | .i64 | .i32 | .i16 | .i8 => true
  | _ => false

def intW (op : BinOp) (kk : IntKind) (x y : Int) (k : D → Prop) : Prop :=
  match op with
  | .add => wrW kk (x + y) k
  | .sub => wrW kk (x - y) k
  | .mul => wrW kk (x * y) k
  | .quo => y ≠ 0 ∧ (if isSigned kk = true then inR kk (x.tdiv y) ∧ k (.int kk (x.tdiv y)) else k (.int kk (x / y)))
  | .rem => y ≠ 0 ∧ (if isSigned kk = true then k (.int kk (x.tmod y)) else k (.int kk (x % y)))
  | .and => k (.int kk (bits .and kk x y))
  | .or => k (.int kk (bits .or kk x y))
  | .xor => k (.int kk (bits .xor kk x y))
  | .andNot => k (.int kk (bits .andNot kk x y))
  | .eql => k (.bool (decide (x = y)))
  | .neq => k (.bool (decide (x ≠ y)))
  | .lss => k (.bool (decide (x < y)))
  | .leq => k (.bool (decide (x ≤ y)))
  | .gtr => k (.bool (decide (y < x)))
  | .geq => k (.bool (decide (y ≤ x)))
  | _ => False
section
variable (kk : IntKind) (x y : Int) (k : D → Prop)
end

theorem inR_bits (op : BinOp) (kk : IntKind) (x y : Int) : inR kk (bits op kk x y) := inR_wrap _ _

theorem inR_le {kk : IntKind} {a b : Int} (h : inR kk a) (h0 : 0 ≤ b) (h1 : b ≤ a) : inR kk b := by
  have hm : kk.min ≤ 0 := by cases kk <;> decide
  exact ⟨Int.le_trans hm h0, Int.le_trans h1 h.2⟩

theorem tdiv_unsigned {kk : IntKind} {x y : Int} (hk : isSigned kk = false) (hx : inR kk x) (hy : inR kk y) (h0 : y ≠ 0) : kk.wrap (x.tdiv y) = x / y ∧ inR kk (x / y) ∧ x.tmod y = x % y ∧ inR kk (x % y) := by
  have hx0 : 0 ≤ x := by cases kk <;> simp [isSigned] at hk <;> exact hx.1
  have hy0 : 0 ≤ y := by cases kk <;> simp [isSigned] at hk <;> exact hy.1
  have h1 := IntWalk.tdiv_le x y hx0 (by omega)
  have h2 : 0 ≤ x % y := Int.emod_nonneg _ h0
  have h3 : x % y < y := Int.emod_lt_of_pos _ (by omega)
  have hq : inR kk (x / y) := inR_le hx h1.1 h1.2
  refine ⟨?_, hq, IntWalk.rem_in x y hx0, ?_⟩
  · rw [Int.tdiv_eq_ediv_of_nonneg hx0]; exact wrap_of_inR hq
  · exact inR_le hy h2 (by omega)

theorem tmod_signed {kk : IntKind} {x y : Int} (hk : isSigned kk = true) (hx : inR kk x) : inR kk (x.tmod y) := by
  have h1 : (x.tmod y).natAbs ≤ x.natAbs := by
    rw [Int.natAbs_tmod]; exact Nat.mod_le _ _
  have h2 : 0 ≤ x → 0 ≤ x.tmod y := fun h => Int.tmod_nonneg y h
  have h3 : x ≤ 0 → x.tmod y ≤ 0 := fun h => by
    have := Int.tmod_nonneg y (show 0 ≤ -x by omega)
    rw [Int.neg_tmod] at this; omega
  have h4 : (0 ≤ x → x.tmod y ≤ x) ∧ (x ≤ 0 → x ≤ x.tmod y) := by omega
  clear h1
  cases kk <;> simp [isSigned] at hk <;> simp only [inR, IntKind.min, IntKind.max, IntKind.signed, IntKind.bits] at * <;> simp at * <;> omega

theorem beqI (x y : Int) : (x == y) = decide (x = y) := Bool.eq_iff_iff.2 (by simp)
theorem bneI (x y : Int) : (x != y) = decide (x ≠ y) := Bool.eq_iff_iff.2 (by simp)

/-- The machine's two operands of one kind, and what comes of them. -/
theorem intW_ok {P : Program} {w : World} {op : BinOp} {kk : IntKind} {x y : Int} {k : D → Prop} (hx : inR kk x) (hy : inR kk y) (h : intW op kk x y k) (hop : op ≠ .shl) (hop' : op ≠ .shr) (t : TypeId) :
    ∃ v d, (binOp op t (.int kk x) (.int kk y)).run P w = .ok v w ∧ k d ∧ ∀ F, RepR w F v d := by
  cases op <;> simp only [intW] at h <;> first | (exact (hop rfl).elim) | (exact (hop' rfl).elim) | (exact h.elim) | skip
  case add => exact ⟨_, _, by simp [binOp, Op.intArith], (wrW_ok h).2, fun F => .int (wrW_ok h).1.1 (wrW_ok h).1.2⟩
  case sub => exact ⟨_, _, by simp [binOp, Op.intArith], (wrW_ok h).2, fun F => .int (wrW_ok h).1.1 (wrW_ok h).1.2⟩
  case mul => exact ⟨_, _, by simp [binOp, Op.intArith], (wrW_ok h).2, fun F => .int (wrW_ok h).1.1 (wrW_ok h).1.2⟩
  case quo =>
    obtain ⟨h0, h⟩ := h
    by_cases hsg : isSigned kk = true
    · rw [if_pos hsg] at h
      refine ⟨.int kk (x.tdiv y), _, ?_, h.2, fun F => .int h.1.1 h.1.2⟩
      simp [binOp, Op.intDiv, h0, wrap_of_inR h.1]
    · rw [if_neg hsg] at h
      obtain ⟨e1, e2, e3, e4⟩ := tdiv_unsigned (by simpa using hsg) hx hy h0
      refine ⟨.int kk (x / y), _, ?_, h, fun F => .int e2.1 e2.2⟩
      simp [binOp, Op.intDiv, h0, e1]
  case rem =>
    obtain ⟨h0, h⟩ := h
    by_cases hsg : isSigned kk = true
    · rw [if_pos hsg] at h
      have := tmod_signed (y := y) hsg hx
      refine ⟨.int kk (x.tmod y), _, ?_, h, fun F => .int this.1 this.2⟩
      simp [binOp, Op.intDiv, h0]
    · rw [if_neg hsg] at h
      obtain ⟨e1, e2, e3, e4⟩ := tdiv_unsigned (by simpa using hsg) hx hy h0
      refine ⟨.int kk (x % y), _, ?_, h, fun F => .int e4.1 e4.2⟩
      simp [binOp, Op.intDiv, h0, e3]
  case and => exact ⟨_, _, by simp only [binOp, ne_eq, not_true_eq_false, if_false]; rfl, h, fun F => .int (inR_bits .and kk x y).1 (inR_bits .and kk x y).2⟩
  case or => exact ⟨_, _, by simp only [binOp, ne_eq, not_true_eq_false, if_false]; rfl, h, fun F => .int (inR_bits .or kk x y).1 (inR_bits .or kk x y).2⟩
  case xor => exact ⟨_, _, by simp only [binOp, ne_eq, not_true_eq_false, if_false]; rfl, h, fun F => .int (inR_bits .xor kk x y).1 (inR_bits .xor kk x y).2⟩
  case andNot => exact ⟨_, _, by simp only [binOp, ne_eq, not_true_eq_false, if_false]; rfl, h, fun F => .int (inR_bits .andNot kk x y).1 (inR_bits .andNot kk x y).2⟩
  case eql => exact ⟨.bool (decide (x = y)), _, by simp only [binOp, Op.intCmp, beqI, ne_eq, not_true_eq_false, if_false, Sem.run_pure], h, fun F => .bool⟩
  case neq => exact ⟨.bool (decide (x ≠ y)), _, by simp only [binOp, Op.intCmp, bneI, ne_eq, not_true_eq_false, if_false, Sem.run_pure], h, fun F => .bool⟩
  case lss => exact ⟨.bool (decide (x < y)), _, by simp [binOp, Op.intCmp], h, fun F => .bool⟩
  case leq => exact ⟨.bool (decide (x ≤ y)), _, by simp [binOp, Op.intCmp], h, fun F => .bool⟩
  case gtr => exact ⟨.bool (decide (y < x)), _, by simp [binOp, Op.intCmp], h, fun F => .bool⟩
  case geq => exact ⟨.bool (decide (y ≤ x)), _, by simp [binOp, Op.intCmp], h, fun F => .bool⟩

/-! ### Shifts -/
def shlI (kk : IntKind) (x y : Int) : Int := kk.wrap (x * 2 ^ (min y.toNat kk.bits))
def shrI (kk : IntKind) (x y : Int) : Int := x / 2 ^ (min y.toNat kk.bits)

theorem inR_shr {kk : IntKind} {x y : Int} (h : inR kk x) : inR kk (shrI kk x y) := by
  unfold shrI
  have hp : (0 : Int) < 2 ^ (min y.toNat kk.bits) := Int.pow_pos (by decide)
  generalize (2 : Int) ^ (min y.toNat kk.bits) = m at *
  have h1 : 0 ≤ x → 0 ≤ x / m ∧ x / m ≤ x := fun h0 => ⟨Int.ediv_nonneg h0 (by omega), Int.ediv_le_self _ h0⟩
  have h2 : x < 0 → x ≤ x / m ∧ x / m < 0 := fun h0 => ⟨by
      have := Int.ediv_mul_le x (show m ≠ 0 by omega)
      have h3 : x / m < 0 := Int.ediv_neg_of_neg_of_pos h0 hp
      have : x * m ≤ x := by
        have h := Int.mul_nonneg (show 0 ≤ -x by omega) (show 0 ≤ m - 1 by omega)
        rw [Int.neg_mul, Int.mul_sub, Int.mul_one] at h
        omega
      exact (Int.le_ediv_iff_mul_le hp).2 this, Int.ediv_neg_of_neg_of_pos h0 hp⟩
  by_cases h0 : 0 ≤ x
  · exact inR_le h (h1 h0).1 (h1 h0).2
  · have := h2 (by omega)
    have hm : 0 ≤ kk.max := by cases kk <;> decide
    exact ⟨Int.le_trans h.1 this.1, by omega⟩

def isSh : BinOp → Bool
  | .shl | .shr => true
  | _ => false

/-! ### Strings -/
def strW (op : BinOp) (a b : List UInt8) (k : D → Prop) : Prop :=
  match op with
  | .add => a.length + b.length ≤ maxLen ∧ k (.str (a ++ b))
  | .eql => k (.bool (decide (a = b)))
  | .neq => k (.bool (decide (a ≠ b)))
  | .lss => k (.bool (Op.bytesLess a b))
  | _ => False
theorem ba_toList (s : ByteArray) : s.toList = s.data.toList := ByteArray.toList_eq s
theorem ba_size (s : ByteArray) : s.size = s.data.toList.length := by cases s; rfl

theorem strW_ok {P : Program} {w : World} {op : BinOp} {x y : ByteArray} {a b : List UInt8} {k : D → Prop} (hx : x.data.toList = a) (hy : y.data.toList = b) (h : strW op a b k) (t : TypeId) :
    ∃ v d, (binOp op t (.string x) (.string y)).run P w = .ok v w ∧ k d ∧ ∀ F, RepR w F v d := by
  subst hx; subst hy
  cases op <;> simp only [strW] at h <;> first | (exact h.elim) | skip
  case add =>
    refine ⟨.string (x ++ y), _, ?_, h.2, fun F => .str (by simp) (by simpa using h.1)⟩
    have h1 := h.1
    simp only [maxLen] at h1
    have : ¬ (((x.size + y.size : Nat) : Int) > IntKind.i64.max) := by
      have : IntKind.i64.max = 9223372036854775807 := by decide
      rw [this, ba_size, ba_size]
      omega
    simp only [binOp, Op.stringOp, if_neg this, Sem.run_pure]
  case eql => exact ⟨.bool (x.data.toList == y.data.toList), _, by simp only [binOp, Op.stringOp, ba_toList, Sem.run_pure], h, fun F => by rw [show (x.data.toList == y.data.toList) = decide (x.data.toList = y.data.toList) from Bool.eq_iff_iff.2 (by simp)]; exact .bool⟩
  case neq => exact ⟨.bool (!(x.data.toList == y.data.toList)), _, by simp only [binOp, Op.stringOp, ba_toList, Sem.run_pure], h, fun F => by rw [show (!(x.data.toList == y.data.toList)) = decide (x.data.toList ≠ y.data.toList) from Bool.eq_iff_iff.2 (by simp)]; exact .bool⟩
  case lss => exact ⟨.bool _, _, by simp only [binOp, Op.stringOp, ba_toList, Sem.run_pure], h, fun F => .bool⟩

#print axioms intW_ok
#print axioms strW_ok
end Go.Abs
end
section
namespace Go.Abs
open Go.RowKit (Below)

/-! ### The program's types -/
inductive TY where
  | int (k : IntKind) | bool | str | slice (e : TypeId) | arr (n : Nat) (e : TypeId) | struct (fs : List (Nat × TypeId)) | ptr (e : TypeId) | func | map (k e : TypeId) | other

def tyOf (P : Program) (t : TypeId) : TY :=
  match P.underlying t with
  | some (.int k) => .int k
  | some .bool => .bool
  | some .string => .str
  | some (.slice e) => .slice e
  | some (.array n e) => .arr n e
  | some (.struct fs) => .struct (fs.toList.map fun f => (f.offset, f.type))
  | some (.pointer e) => .ptr e
  | some (.func _ _ _) => .func
  | some (.map k e) => .map k e
  | _ => .other
def tyW (P : Program) (t : TypeId) (k : TY → Prop) : Prop := k (tyOf P t)
def szW (P : Program) (t : TypeId) (k : Nat → Prop) : Prop := match P.info? t with | some i => k i.size | none => False
def byW (P : Program) (t : TypeId) (k : Nat → Prop) : Prop := match P.info? t with | some i => k i.bytes | none => False
def zeroW (P : Program) (t : TypeId) (k : List D → Prop) : Prop :=
  match P.info? t with
  | some i => match i.zero with | some v => v.cells.all Value.oneCell' = true ∧ k (v.cells.toList.map dS) | none => False
  | none => False

theorem szW_ok {P : Program} {t : TypeId} {k : Nat → Prop} (h : szW P t k) : ∃ i, P.info? t = some i ∧ k i.size := by
  unfold szW at h; split at h
  · rename_i i e; exact ⟨i, e, h⟩
  · exact h.elim
theorem byW_ok {P : Program} {t : TypeId} {k : Nat → Prop} (h : byW P t k) : ∃ i, P.info? t = some i ∧ k i.bytes := by
  unfold byW at h; split at h
  · rename_i i e; exact ⟨i, e, h⟩
  · exact h.elim
theorem zeroW_ok {P : Program} {t : TypeId} {k : List D → Prop} (h : zeroW P t k) : ∃ i v, P.info? t = some i ∧ i.zero = some v ∧ v.cells.all Value.oneCell' = true ∧ k (v.cells.toList.map dS) := by
  unfold zeroW at h; split at h
  · rename_i i e
    split at h
    · rename_i v e2; exact ⟨i, v, e, e2, h.1, h.2⟩
    · exact h.elim
  · exact h.elim

section
variable {P : Program} {t : TypeId}
theorem tyOf_slice {e : TypeId} (h : tyOf P t = .slice e) : P.underlying t = some (.slice e) := by
  unfold tyOf at h; split at h <;> simp_all
theorem tyOf_arr {n : Nat} {e : TypeId} (h : tyOf P t = .arr n e) : P.underlying t = some (.array n e) := by
  unfold tyOf at h; split at h <;> simp_all
theorem tyOf_str (h : tyOf P t = .str) : P.underlying t = some .string := by
  unfold tyOf at h; split at h <;> simp_all
theorem tyOf_bool (h : tyOf P t = .bool) : P.underlying t = some .bool := by
  unfold tyOf at h; split at h <;> simp_all
theorem tyOf_int {k : IntKind} (h : tyOf P t = .int k) : P.underlying t = some (.int k) := by
  unfold tyOf at h; split at h <;> simp_all
theorem tyOf_struct {fs : List (Nat × TypeId)} (h : tyOf P t = .struct fs) : ∃ a : Array Field, P.underlying t = some (.struct a) ∧ fs = a.toList.map fun f => (f.offset, f.type) := by
  unfold tyOf at h; split at h <;> simp_all
end

/-- Is a value of this type several cells, written as one (a struct, an array)? -/
def isAg : TY → Option Bool
  | .struct _ | .arr _ _ => some true
  | .other => none
  | _ => some false
theorem run_isAgg {P : Program} {t : TypeId} {b : Bool} (h : isAg (tyOf P t) = some b) (w : World) : (isAgg t).run P w = .ok b w := by
  unfold tyOf at h
  generalize hu : P.underlying t = u at h
  cases u with
  | none => simp [isAg] at h
  | some d => cases d <;> simp_all [isAg, isAgg, underlying]

/-! ### A block of the call's own is made -/
def purge (id : Nat) (env : List (Nat × D)) : List (Nat × D) := env.map fun p => (p.1, if mn id p.2 = true then .any else p.2)
theorem lk_purge {id s : Nat} {env : List (Nat × D)} {d : D} (h : lk s (purge id env) = some d) : d = .any ∧ (∃ d', lk s env = some d') ∨ (lk s env = some d ∧ mn id d = false) := by
  induction env with
  | nil => simp [purge, lk] at h
  | cons p r ih =>
    obtain ⟨t, e⟩ := p
    simp only [purge, List.map_cons, lk] at h ⊢
    split at h
    · rename_i e1
      simp only [if_pos e1]
      by_cases hm : mn id e = true
      · rw [if_pos hm] at h; cases h; exact .inl ⟨rfl, _, rfl⟩
      · rw [if_neg hm] at h; cases h; exact .inr ⟨rfl, by simpa using hm⟩
    · rename_i e1
      simp only [if_neg e1]
      exact ih h

/-- No own block's cells but those of 'id' name 'id'. -/
structure NM (id : Nat) (own : List (Nat × List D)) : Prop where
  lt : id < pinB
  nm : ∀ i c, lk i own = some c → i ≠ id → ∀ d ∈ c, mn id d = false

theorem FS_alloc {φ : Loc} {own : List (Nat × List D)} {w : World} {id m : Nat} {o : Obj} {cs : List D} {b : Nat} (h : FSx φ own w b) : FSx (upd φ id (some w.heap.size, m)) ((id, cs) :: own) (w.alloc o) b := by
  refine ⟨Nat.lt_of_lt_of_le h.1 (by simp), fun i c hc => ?_, h.3⟩
  simp only [lk] at hc
  split at hc
  · rename_i e; subst e; rw [upd_same]; intro e; have := h.1; simp at e; omega
  · rename_i e; rw [upd_other _ _ e]; exact h.2 i c hc

theorem SatC.new {w0 : Bas} {w : World} {φ : Loc} {S : St} {tmps : Array Value} (h : SatC w0 φ S tmps w) (arr : Array Value) (T : TypeId) (fz : Nat × Nat) (cs : List D)
    (hfz : ∀ o, o < arr.size → ¬ (fz.1 ≤ o ∧ o < fz.2)) (hlen : cs.length ≤ arr.size)
    (hcs : ∀ (i : Nat) (v : Value) (d : D), arr[i]? = some v → cs[i]? = some d → Rep φ w (FSx φ S.own w) v d ∧ v.oneCell' = true ∧ mn S.nx d = false) (hnm : NM S.nx S.own) :
    SatC w0 (Abs.upd φ S.nx (some w.heap.size, arr.size)) ⟨S.n, S.nx + 1, purge S.nx S.env, (S.nx, cs) :: S.own⟩ tmps (w.alloc (.cells arr T fz)) := by
  have hw : ∀ b, FSx φ S.own w b → (w.alloc (.cells arr T fz)).heap[b]? = w.heap[b]? := fun b hb => Below.heap_alloc _ _ _ hb.1
  have hF : ∀ b, FSx φ S.own w b → FSx (Abs.upd φ S.nx (some w.heap.size, arr.size)) ((S.nx, cs) :: S.own) (w.alloc (.cells arr T fz)) b := fun b hb => FS_alloc hb
  refine ⟨h.below.alloc _, h.size, fun id c hc => ?_, fun id id' c c' b hc hc' hb hb' => ?_, fun s d hd => ?_, h.base, fun i hi => by rw [upd_other _ _ (by have := hnm.lt; omega)]; exact h.pin i hi⟩
  · simp only [lk] at hc
    split at hc
    · rename_i e; cases hc; subst e
      refine ⟨?_, fun b hb => by rw [upd_same] at hb; cases hb; exact .inl h.below.size⟩
      unfold OwnOk
      rw [upd_same]
      exact ⟨arr, T, fz, heap_alloc_new w _, rfl, hfz, hlen, fun i v d hv hd => ⟨((hcs i v d hv hd).1.mono hw hF).upd (hcs i v d hv hd).2.2, (hcs i v d hv hd).2.1⟩⟩
    · rename_i e
      obtain ⟨h1, h2⟩ := h.own id c hc
      refine ⟨?_, fun b hb => h2 b (by rwa [upd_other _ _ e] at hb)⟩
      unfold OwnOk at h1 ⊢
      rw [upd_other _ _ e]
      split
      · rename_i e1; rw [e1] at h1; exact ⟨fun i d hd => by obtain ⟨v, a1, a2⟩ := h1.1 i d hd; exact ⟨v, a1, (a2.mono hw hF).upd (hnm.nm id c hc e d (List.mem_of_getElem? hd))⟩, h1.2⟩
      · rename_i b e1
        rw [e1] at h1
        obtain ⟨arr', T', fz', k1, k2, k3, k4, k5⟩ := h1
        exact ⟨arr', T', fz', (Below.heap_alloc _ _ _ (Array.getElem?_eq_some_iff.1 k1).1).trans k1, k2, k3, k4, fun i v d hv hd =>
          ⟨((k5 i v d hv hd).1.mono hw hF).upd (hnm.nm id c hc e d (List.mem_of_getElem? hd)), (k5 i v d hv hd).2⟩⟩
  · have key : ∀ i c'', lk i ((S.nx, cs) :: S.own) = some c'' → (Abs.upd φ S.nx (some w.heap.size, arr.size) i).1 = some b → (i = S.nx ∧ b = w.heap.size) ∨ (i ≠ S.nx ∧ lk i S.own = some c'' ∧ (φ i).1 = some b ∧ b < w.heap.size) := by
      intro i c'' hi hbi
      simp only [lk] at hi
      split at hi
      · rename_i e; subst e; rw [upd_same] at hbi; cases hbi; exact .inl ⟨rfl, rfl⟩
      · rename_i e; rw [upd_other _ _ e] at hbi; exact .inr ⟨e, hi, hbi, (h.own i _ hi).1.lt hbi⟩
    rcases key id c hc hb with ⟨e1, e2⟩ | ⟨e1, e2, e3, e4⟩ <;> rcases key id' c' hc' hb' with ⟨f1, f2⟩ | ⟨f1, f2, f3, f4⟩
    · rw [e1, f1]
    · omega
    · omega
    · exact h.inj id id' c c' b e2 f2 e3 f3
  · rcases lk_purge hd with ⟨rfl, d', hd'⟩ | ⟨hd', hm⟩
    · obtain ⟨v, hv, _⟩ := h.env s d' hd'
      exact ⟨v, hv, .ro (.any v)⟩
    · obtain ⟨v, hv, hr⟩ := h.env s d hd'
      exact ⟨v, hv, (hr.mono hw hF).upd hm⟩

/-! ### A block of the call's own is written -/
def setO (id : Nat) (cs : List D) : List (Nat × List D) → List (Nat × List D)
  | [] => []
  | (i, c) :: r => if id = i then (i, cs) :: r else (i, c) :: setO id cs r
theorem lk_setO_same {id : Nat} {cs c : List D} {own : List (Nat × List D)} (h : lk id own = some c) : lk id (setO id cs own) = some cs := by
  induction own with
  | nil => simp [lk] at h
  | cons p r ih =>
    obtain ⟨i, x⟩ := p
    simp only [lk, setO] at h ⊢
    split
    · rename_i e; simp [lk, e]
    · rename_i e; rw [if_neg e] at h; simp only [lk, if_neg e]; exact ih h
theorem lk_setO_other {id i : Nat} {cs : List D} {own : List (Nat × List D)} (h : i ≠ id) : lk i (setO id cs own) = lk i own := by
  induction own with
  | nil => rfl
  | cons p r ih =>
    obtain ⟨j, x⟩ := p
    simp only [lk, setO]
    by_cases e : id = j
    · rw [if_pos e]; subst e; simp [lk, h]
    · rw [if_neg e]; simp only [lk, ih]

theorem FS_setO {φ : Loc} {own : List (Nat × List D)} {w w' : World} {id : Nat} {cs c : List D} (hid : lk id own = some c) (hsz : w.heap.size ≤ w'.heap.size) {b : Nat} (h : FSx φ own w b) : FSx φ (setO id cs own) w' b := by
  refine ⟨Nat.lt_of_lt_of_le h.1 hsz, fun i x hx => ?_, h.3⟩
  by_cases e : i = id
  · subst e; exact h.2 i c hid
  · rw [lk_setO_other e] at hx; exact h.2 i x hx

theorem SatC.mod {w0 : Bas} {w w' : World} {φ : Loc} {S : St} {tmps : Array Value} (h : SatC w0 φ S tmps w) {id b : Nat} {c cs : List D} {arr : Array Value} {T : TypeId} {fz : Nat × Nat}
    (hid : lk id S.own = some c) (hb : (φ id).1 = some b) (hos : w'.os = w.os) (htape : w'.tape = w.tape) (hout : w'.output = w.output) (hsz : w'.heap.size = w.heap.size)
    (hoth : ∀ k, k ≠ b → w'.heap[k]? = w.heap[k]?) (hblk : w'.heap[b]? = some (.cells arr T fz)) (hsize : arr.size = (φ id).2) (hfz : ∀ o, o < arr.size → ¬ (fz.1 ≤ o ∧ o < fz.2)) (hlen : cs.length ≤ arr.size)
    (hcs : ∀ (i : Nat) (v : Value) (d : D), arr[i]? = some v → cs[i]? = some d → Rep φ w (FSx φ S.own w) v d ∧ v.oneCell' = true) :
    SatC w0 φ ⟨S.n, S.nx, S.env, setO id cs S.own⟩ tmps w' := by
  have hw : ∀ k, FSx φ S.own w k → w'.heap[k]? = w.heap[k]? := fun k hk => hoth k fun e => hk.2 id c hid (by rw [hb, e])
  have hF : ∀ k, FSx φ S.own w k → FSx φ (setO id cs S.own) w' k := fun k hk => FS_setO hid (by omega) hk
  have hB : w0.w.heap.size ≤ b ∨ w0.lent b := (h.own id c hid).2 b hb
  refine ⟨⟨hos.trans h.below.os, htape.trans h.below.tape, hout.trans h.below.output, by have := h.below.size; omega, fun k hk hl => (hoth k (fun e => hB.elim (fun h => absurd hk (by omega)) fun h => hl (by rw [e]; exact h))).trans (h.below.block k hk hl)⟩, h.size, fun i x hx => ?_, fun i i' x x' k hx hx' hk hk' => ?_, fun s d hd => ?_, h.base, h.pin⟩
  · by_cases e : i = id
    · subst e
      rw [lk_setO_same hid] at hx; cases hx
      refine ⟨?_, (h.own i c hid).2⟩
      unfold OwnOk
      rw [hb]
      exact ⟨arr, T, fz, hblk, hsize, hfz, hlen, fun j v d hv hd => ⟨(hcs j v d hv hd).1.mono hw hF, (hcs j v d hv hd).2⟩⟩
    · rw [lk_setO_other e] at hx
      refine ⟨(h.own i x hx).1.mono hw hF fun k hk => hoth k fun e2 => e (h.inj i id x c b hx hid (by rw [hk, e2]) hb), (h.own i x hx).2⟩
  · have key : ∀ j y, lk j (setO id cs S.own) = some y → ∃ z, lk j S.own = some z := by
      intro j y hy
      by_cases e : j = id
      · subst e; exact ⟨c, hid⟩
      · exact ⟨y, by rwa [lk_setO_other e] at hy⟩
    obtain ⟨z, hz⟩ := key i x hx
    obtain ⟨z', hz'⟩ := key i' x' hx'
    exact h.inj i i' z z' k hz hz' hk hk'
  · obtain ⟨v, hv, hr⟩ := h.env s d hd
    exact ⟨v, hv, hr.mono hw hF⟩

/-- .. or it is laid anew, elsewhere, with more cells. -/
theorem SatC.regrow {w0 : Bas} {w : World} {φ : Loc} {S : St} {tmps : Array Value} (h : SatC w0 φ S tmps w) {id : Nat} {c cs : List D} (arr : Array Value) (T : TypeId)
    (hid : lk id S.own = some c) (hlen : cs.length ≤ arr.size)
    (hcs : ∀ (i : Nat) (v : Value) (d : D), arr[i]? = some v → cs[i]? = some d → Rep φ w (FSx φ S.own w) v d ∧ v.oneCell' = true ∧ mn id d = false) (hnm : NM id S.own) :
    SatC w0 (Abs.upd φ id (some w.heap.size, arr.size)) ⟨S.n, S.nx, purge id S.env, setO id cs S.own⟩ tmps (w.alloc (.cells arr T)) := by
  have hw : ∀ b, FSx φ S.own w b → (w.alloc (.cells arr T)).heap[b]? = w.heap[b]? := fun b hb => Below.heap_alloc _ _ _ hb.1
  have hF : ∀ b, FSx φ S.own w b → FSx (Abs.upd φ id (some w.heap.size, arr.size)) (setO id cs S.own) (w.alloc (.cells arr T)) b := fun b hb => by
    refine ⟨Nat.lt_of_lt_of_le hb.1 (by simp), fun i x hx => ?_, hb.3⟩
    by_cases e : i = id
    · subst e; rw [upd_same]; intro e; have := hb.1; simp at e; omega
    · rw [upd_other _ _ e]; rw [lk_setO_other e] at hx; exact hb.2 i x hx
  refine ⟨h.below.alloc _, h.size, fun i x hx => ?_, fun i i' x x' b hx hx' hb hb' => ?_, fun s d hd => ?_, h.base, fun i hi => by rw [upd_other _ _ (by have := hnm.lt; omega)]; exact h.pin i hi⟩
  · by_cases e : i = id
    · subst e
      rw [lk_setO_same hid] at hx; cases hx
      refine ⟨?_, fun b hb => by rw [upd_same] at hb; cases hb; exact .inl h.below.size⟩
      unfold OwnOk
      rw [upd_same]
      exact ⟨arr, T, (0, 0), heap_alloc_new w _, rfl, fun o _ => by simp, hlen, fun j v d hv hd => ⟨((hcs j v d hv hd).1.mono hw hF).upd (hcs j v d hv hd).2.2, (hcs j v d hv hd).2.1⟩⟩
    · rw [lk_setO_other e] at hx
      obtain ⟨h1, h2⟩ := h.own i x hx
      refine ⟨?_, fun b hb => h2 b (by rwa [upd_other _ _ e] at hb)⟩
      unfold OwnOk at h1 ⊢
      rw [upd_other _ _ e]
      split
      · rename_i e1; rw [e1] at h1; exact ⟨fun j d hd => by obtain ⟨v, a1, a2⟩ := h1.1 j d hd; exact ⟨v, a1, (a2.mono hw hF).upd (hnm.nm i x hx e d (List.mem_of_getElem? hd))⟩, h1.2⟩
      · rename_i b e1
        rw [e1] at h1
        obtain ⟨arr', T', fz', k1, k2, k3, k4, k5⟩ := h1
        exact ⟨arr', T', fz', (Below.heap_alloc _ _ _ (Array.getElem?_eq_some_iff.1 k1).1).trans k1, k2, k3, k4, fun j v d hv hd =>
          ⟨((k5 j v d hv hd).1.mono hw hF).upd (hnm.nm i x hx e d (List.mem_of_getElem? hd)), (k5 j v d hv hd).2⟩⟩
  · have key : ∀ j y, lk j (setO id cs S.own) = some y → (Abs.upd φ id (some w.heap.size, arr.size) j).1 = some b → (j = id ∧ b = w.heap.size) ∨ (j ≠ id ∧ lk j S.own = some y ∧ (φ j).1 = some b ∧ b < w.heap.size) := by
      intro j y hj hbj
      by_cases e : j = id
      · subst e; rw [upd_same] at hbj; cases hbj; exact .inl ⟨rfl, rfl⟩
      · rw [upd_other _ _ e] at hbj; rw [lk_setO_other e] at hj; exact .inr ⟨e, hj, hbj, (h.own j _ hj).1.lt hbj⟩
    rcases key i x hx hb with ⟨e1, e2⟩ | ⟨e1, e2, e3, e4⟩ <;> rcases key i' x' hx' hb' with ⟨f1, f2⟩ | ⟨f1, f2, f3, f4⟩
    · rw [e1, f1]
    · omega
    · omega
    · exact h.inj i i' x x' b e2 f2 e3 f3
  · rcases lk_purge hd with ⟨rfl, d', hd'⟩ | ⟨hd', hm⟩
    · obtain ⟨v, hv, _⟩ := h.env s d' hd'
      exact ⟨v, hv, .ro (.any v)⟩
    · obtain ⟨v, hv, hr⟩ := h.env s d hd'
      exact ⟨v, hv, (hr.mono hw hF).upd hm⟩

#print axioms SatC.regrow
end Go.Abs
end
