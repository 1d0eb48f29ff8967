/-
  AN ABSTRACT WALK. This text: data that a value stands for (D), what it means in a world (RepR, Rep), the state of a walk (St) and when a machine's frame and world fit it (SatC). No program in sight.
-/
import Derived.WalkKit
import Derived.Laws.IdiomCopy
import Derived.Laws.BytesString
import Derived.Lib.ConvBytes
import Derived.Lib.Strings
section
namespace Go.Abs
open Go.RowKit (Below)

/-- What is known of a value. 'any': nothing. 'sl': a slice that is only read ('n' elements of 'sz' cells); 'slx': one whose capacity is its length; 'rop': a pointer into cells that are only read; 'ptr', 'osl', 'osw': a pointer, a growing slice, a window into a block of the call's own, by its number; 'oag', 'ofn': a struct, a function value that may hold such ones. 'yld': what a range over a function hands to it (the loop's record: block l). 'mpr': a map (block r). -/
inductive D where
  | any
  | int (k : IntKind) (n : Int)
  | bool (b : Bool)
  | str (s : List UInt8)
  | nils
  | agg (cs : List D)
  | tup (ds : List D)
  | sl (sz n : Nat) (cs : List D)
  | slx (sz n : Nat) (cs : List D)
  | rop (cs : List D) (off : Nat)
  | fn (f : FuncId) (caps : List D)
  | ptr (id off : Nat)
  | osl (id sz n : Nat)
  | osw (id off sz n : Nat)
  | oag (cs : List D)
  | ofn (f : FuncId) (caps : List D)
  | yld (l : Nat)
  | mpr (r : Nat)

/-- The value 'v' reads as 'd' in 'w'; all that is read lies in blocks of which F holds. -/
inductive RepR (w : World) (F : Nat → Prop) : Value → D → Prop
  | any (v : Value) : RepR w F v .any
  | int {k : IntKind} {n : Int} : k.min ≤ n → n ≤ k.max → RepR w F (.int k n) (.int k n)
  | bool {b : Bool} : RepR w F (.bool b) (.bool b)
  | str {b : ByteArray} {s : List UInt8} : b.data.toList = s → s.length ≤ maxLen → RepR w F (.string b) (.str s)
  | nils : RepR w F (.slice none 0 0) .nils
  | agg {vs : Array Value} {ds : List D} : vs.size = ds.length → (∀ (i : Nat) (v : Value), vs[i]? = some v → v.oneCell' = true) → (∀ (i : Nat) (v : Value) (d : D), vs[i]? = some v → ds[i]? = some d → RepR w F v d) → RepR w F (.agg vs) (.agg ds)
  | tup {vs : Array Value} {ds : List D} : vs.size = ds.length → (∀ (i : Nat) (v : Value) (d : D), vs[i]? = some v → ds[i]? = some d → RepR w F v d) → RepR w F (.tuple vs) (.tup ds)
  | sl0 {sz c : Nat} {p : Option Addr} : c ≤ maxLen → RepR w F (.slice p 0 c) (.sl sz 0 [])
  | sl {a : Addr} {c sz n : Nat} {cs : List D} (g : Nat → Value) : a.spot = none → F a.block → n ≤ c → c ≤ maxLen → cs.length = n * sz →
      (∀ (j : Nat), j < n * sz → w.cell? ⟨a.block, a.off + j, none⟩ = some (g j) ∧ (g j).oneCell' = true) → (∀ (j : Nat) (d : D), cs[j]? = some d → RepR w F (g j) d) → RepR w F (.slice (some a) n c) (.sl sz n cs)
  | slx0 {sz : Nat} {p : Option Addr} : RepR w F (.slice p 0 0) (.slx sz 0 [])
  | slx {a : Addr} {sz n : Nat} {cs : List D} (g : Nat → Value) : a.spot = none → F a.block → n ≤ maxLen → cs.length = n * sz →
      (∀ (j : Nat), j < n * sz → w.cell? ⟨a.block, a.off + j, none⟩ = some (g j) ∧ (g j).oneCell' = true) → (∀ (j : Nat) (d : D), cs[j]? = some d → RepR w F (g j) d) → RepR w F (.slice (some a) n n) (.slx sz n cs)
  | rop {b base off : Nat} {cs : List D} (g : Nat → Value) : F b →
      (∀ (j : Nat), j < cs.length → w.cell? ⟨b, base + j, none⟩ = some (g j) ∧ (g j).oneCell' = true) → (∀ (j : Nat) (d : D), cs[j]? = some d → RepR w F (g j) d) → RepR w F (.pointer (some ⟨b, base + off, none⟩)) (.rop cs off)
  | fn {f : FuncId} {vs : Array Value} {ds : List D} : vs.size = ds.length → (∀ (i : Nat) (v : Value) (d : D), vs[i]? = some v → ds[i]? = some d → RepR w F v d) → RepR w F (.func (.func f) #[] vs) (.fn f ds)
  | yld {l : Nat} : RepR w F (.func (.yield l) #[] #[]) (.yld l)
  | mpr {r : Nat} : RepR w F (.map (some r)) (.mpr r)

theorem RepR.mono {w w' : World} {F F' : Nat → Prop} {v : Value} {d : D} (h : RepR w F v d) (hw : ∀ b, F b → w'.heap[b]? = w.heap[b]?) (hF : ∀ b, F b → F' b) : RepR w' F' v d := by
  induction h with
  | any v => exact .any v
  | int a b => exact .int a b
  | bool => exact .bool
  | str a b => exact .str a b
  | nils => exact .nils
  | agg a b c ih => exact .agg a b ih
  | tup a b ih => exact .tup a ih
  | sl0 h => exact .sl0 h
  | sl g a b c d e f _ ih => exact .sl g a (hF _ b) c d e (fun j hj => ⟨by rw [← (f j hj).1]; exact World.cell?_of_block (hw _ b), (f j hj).2⟩) ih
  | slx0 => exact .slx0
  | slx g a b c d e _ ih => exact .slx g a (hF _ b) c d (fun j hj => ⟨by rw [← (e j hj).1]; exact World.cell?_of_block (hw _ b), (e j hj).2⟩) ih
  | rop g a b _ ih => exact .rop g (hF _ a) (fun j hj => ⟨by rw [← (b j hj).1]; exact World.cell?_of_block (hw _ a), (b j hj).2⟩) ih
  | fn a b ih => exact .fn a ih
  | yld => exact .yld
  | mpr => exact .mpr

/-- The blocks that a call may know of; and the slots of the frames of its callers that it goes on for ('gh', by a number and a place). -/
structure BaseT where
  mem : Nat → Prop
  gh : Nat → Nat → Option Value
instance : CoeFun BaseT fun _ => Nat → Prop := ⟨BaseT.mem⟩

/-- Where a block of the call's own lies (none: it has none yet), and how many cells it has. -/
structure Loc where
  at_ : Nat → Option Nat × Nat
  base : BaseT
instance : CoeFun Loc fun _ => Nat → Option Nat × Nat := ⟨Loc.at_⟩

inductive Rep (φ : Loc) (w : World) (F : Nat → Prop) : Value → D → Prop
  | ro {v : Value} {d : D} : RepR w F v d → Rep φ w F v d
  | ptr {id off b : Nat} : (φ id).1 = some b → Rep φ w F (.pointer (some ⟨b, off, none⟩)) (.ptr id off)
  | osl0 {id sz : Nat} {p : Option Addr} : (φ id).1 = none → Rep φ w F (.slice p 0 0) (.osl id sz 0)
  | osl {id sz n c b : Nat} : (φ id).1 = some b → c * sz = (φ id).2 → n ≤ c → c ≤ maxLen → Rep φ w F (.slice (some ⟨b, 0, none⟩) n c) (.osl id sz n)
  | osw0 {id off sz c : Nat} {p : Option Addr} : c ≤ maxLen → Rep φ w F (.slice p 0 c) (.osw id off sz 0)
  | osw {id off sz n c b : Nat} : (φ id).1 = some b → n ≤ c → c ≤ maxLen → off + c * sz ≤ (φ id).2 → Rep φ w F (.slice (some ⟨b, off, none⟩) n c) (.osw id off sz n)
  | oag {vs : Array Value} {ds : List D} : vs.size = ds.length → (∀ (i : Nat) (v : Value), vs[i]? = some v → v.oneCell' = true) → (∀ (i : Nat) (v : Value) (d : D), vs[i]? = some v → ds[i]? = some d → Rep φ w F v d) → Rep φ w F (.agg vs) (.oag ds)
  | ofn {f : FuncId} {vs : Array Value} {ds : List D} : vs.size = ds.length → (∀ (i : Nat) (v : Value) (d : D), vs[i]? = some v → ds[i]? = some d → Rep φ w F v d) → Rep φ w F (.func (.func f) #[] vs) (.ofn f ds)

theorem Rep.mono {φ : Loc} {w w' : World} {F F' : Nat → Prop} {v : Value} {d : D} (h : Rep φ w F v d) (hw : ∀ b, F b → w'.heap[b]? = w.heap[b]?) (hF : ∀ b, F b → F' b) : Rep φ w' F' v d := by
  induction h with
  | ro h => exact .ro (h.mono hw hF)
  | ptr a => exact .ptr a
  | osl0 a => exact .osl0 a
  | osl a b c d => exact .osl a b c d
  | osw0 a => exact .osw0 a
  | osw a b c d => exact .osw a b c d
  | oag a b c ih => exact .oag a b ih
  | ofn a b ih => exact .ofn a ih

theorem Rep.at {φ φ' : Loc} {w : World} {F : Nat → Prop} {v : Value} {d : D} (h : Rep φ w F v d) (e : ∀ i, φ' i = φ i) : Rep φ' w F v d := by
  induction h with
  | ro h => exact .ro h
  | ptr a => exact .ptr (by rw [e]; exact a)
  | osl0 a => exact .osl0 (by rw [e]; exact a)
  | osl a b c d => exact .osl (by rw [e]; exact a) (by rw [e]; exact b) c d
  | osw0 a => exact .osw0 a
  | osw a b c d => exact .osw (by rw [e]; exact a) b c (by rw [e]; exact d)
  | oag a b c ih => exact .oag a b ih
  | ofn a b ih => exact .ofn a ih

/-- Does 'd' name the own block 'id'? (Deeper than a struct's parts: yes, for safety.) -/
def mnS (id : Nat) : D → Bool
  | .ptr i _ | .osl i _ _ | .osw i _ _ _ => i == id
  | .oag _ | .ofn _ _ => true
  | _ => false
def mn (id : Nat) : D → Bool
  | .ptr i _ | .osl i _ _ | .osw i _ _ _ => i == id
  | .oag cs | .ofn _ cs => cs.any (mnS id)
  | _ => false

/-- The place of 'id' is turned to 'x': what does not name 'id' reads as before. -/
def upd (φ : Loc) (id : Nat) (x : Option Nat × Nat) : Loc := { φ with at_ := fun i => if i = id then x else φ i }
theorem upd_same (φ : Loc) (id : Nat) (x : Option Nat × Nat) : upd φ id x id = x := by simp [upd]
theorem upd_other (φ : Loc) {id i : Nat} (x : Option Nat × Nat) (h : i ≠ id) : upd φ id x i = φ i := by simp [upd, h]

theorem Rep.updS {φ : Loc} {w : World} {F : Nat → Prop} {v : Value} {d : D} {id : Nat} {x : Option Nat × Nat} (h : Rep φ w F v d) (hm : mnS id d = false) : Rep (upd φ id x) w F v d := by
  cases h with
  | ro h => exact .ro h
  | ptr a => exact .ptr (by rw [upd_other _ _ (by simpa [mnS] using hm)]; exact a)
  | osl0 a => exact .osl0 (by rw [upd_other _ _ (by simpa [mnS] using hm)]; exact a)
  | osl a b c d => exact .osl (by rw [upd_other _ _ (by simpa [mnS] using hm)]; exact a) (by rw [upd_other _ _ (by simpa [mnS] using hm)]; exact b) c d
  | osw0 a => exact .osw0 a
  | osw a b c d => exact .osw (by rw [upd_other _ _ (by simpa [mnS] using hm)]; exact a) b c (by rw [upd_other _ _ (by simpa [mnS] using hm)]; exact d)
  | oag a b c => simp [mnS] at hm
  | ofn a b => simp [mnS] at hm

theorem Rep.upd {φ : Loc} {w : World} {F : Nat → Prop} {v : Value} {d : D} {id : Nat} {x : Option Nat × Nat} (h : Rep φ w F v d) (hm : mn id d = false) : Rep (upd φ id x) w F v d := by
  cases h with
  | ro h => exact .ro h
  | ptr a => exact Rep.updS (.ptr a) (by simpa [mnS, mn] using hm)
  | osl0 a => exact Rep.updS (.osl0 a) (by simpa [mnS, mn] using hm)
  | osl a b c d => exact Rep.updS (.osl a b c d) (by simpa [mnS, mn] using hm)
  | osw0 a => exact .osw0 a
  | osw a b c d => exact Rep.updS (.osw a b c d) (by simpa [mnS, mn] using hm)
  | oag a b c => exact .oag a b fun i v d hv hd => (c i v d hv hd).updS (by simp [mn] at hm; exact hm d (List.mem_of_getElem? hd))
  | ofn a b => exact .ofn a fun i v d hv hd => (b i v d hv hd).updS (by simp [mn] at hm; exact hm d (List.mem_of_getElem? hd))

/-! ### The state of a walk -/
def lk {α : Type} (k : Nat) : List (Nat × α) → Option α
  | [] => none
  | (i, x) :: r => if k = i then some x else lk k r

/-- 'n': how many slots the frame has; 'nx': the number of the next own block; what the slots hold; the own blocks. -/
structure St where
  n : Nat
  nx : Nat
  env : List (Nat × D)
  own : List (Nat × List D)

/-- The blocks that are there, that this call may know of, and that nobody writes. -/
structure FSx (φ : Loc) (own : List (Nat × List D)) (w : World) (b : Nat) : Prop where
  lt : b < w.heap.size
  no : ∀ id c, lk id own = some c → (φ id).1 ≠ some b
  base : φ.base b

/-- Where a call began: the world; the blocks that its arguments lead to; the package's variables that it may read. -/
abbrev Glob := List (Nat × List D)
structure Bas where
  w : World
  base : BaseT
  G : Glob
  new : ∀ b, w.heap.size ≤ b → base b
  lent : Nat → Prop
  loc : Nat → Option Nat × Nat
  loc0 : ∀ i, loc i = (none, 0)
  lb : ∀ b, lent b → base b ∧ b < w.heap.size
  gok : ∀ g cs, lk g G = some cs → RepR w (fun b => base b ∧ b < w.heap.size ∧ ¬ lent b) (.pointer (some ⟨g, 0, none⟩)) (.rop cs 0)

/-- Own blocks from this number on are such as were lent to this call: they stay where they are. -/
def pinB : Nat := 1000000
/-- The world has come from where the call began; only what was lent to it has turned. -/
structure Bel (b0 : Bas) (w : World) : Prop where
  os : w.os = b0.w.os
  tape : w.tape = b0.w.tape
  output : w.output = b0.w.output
  size : b0.w.heap.size ≤ w.heap.size
  block : ∀ k, k < b0.w.heap.size → ¬ b0.lent k → w.heap[k]? = b0.w.heap[k]?
theorem Bel.refl (b0 : Bas) : Bel b0 b0.w := ⟨rfl, rfl, rfl, Nat.le_refl _, fun _ _ _ => rfl⟩
theorem Bel.ext {b0 : Bas} {w w' : World} (h : Bel b0 w) (hb : Below w.heap.size w w') : Bel b0 w' :=
  ⟨hb.os.trans h.os, hb.tape.trans h.tape, hb.output.trans h.output, Nat.le_trans h.size hb.size, fun k hk hl => (hb.block k (Nat.lt_of_lt_of_le hk h.size)).trans (h.block k hk hl)⟩
theorem Bel.alloc {b0 : Bas} {w : World} (h : Bel b0 w) (o : Obj) : Bel b0 (w.alloc o) := h.ext ((Below.refl _ _).alloc (Nat.le_refl _) _)
theorem Bel.below {b0 : Bas} {w : World} (h : Bel b0 w) (hl : ∀ b, ¬ b0.lent b) : Below b0.w.heap.size b0.w w := ⟨h.os, h.tape, h.output, h.size, fun k hk => h.block k hk (hl k)⟩

def OwnOk (w : World) (F : Nat → Prop) (φ : Loc) (id : Nat) (cs : List D) : Prop :=
  match (φ id).1 with
  | none => (∀ (i : Nat) (d : D), cs[i]? = some d → ∃ v, φ.base.gh id i = some v ∧ Rep φ w F v d) ∧ (φ id).2 = 0
  | some b => ∃ arr T fz, w.heap[b]? = some (.cells arr T fz) ∧ arr.size = (φ id).2 ∧ (∀ o, o < arr.size → ¬ (fz.1 ≤ o ∧ o < fz.2)) ∧ cs.length ≤ arr.size ∧
      ∀ (i : Nat) (v : Value) (d : D), arr[i]? = some v → cs[i]? = some d → Rep φ w F v d ∧ v.oneCell' = true

structure SatC (w0 : Bas) (φ : Loc) (S : St) (tmps : Array Value) (w : World) : Prop where
  below : Bel w0 w
  size : tmps.size = S.n
  own : ∀ id c, lk id S.own = some c → OwnOk w (FSx φ S.own w) φ id c ∧ ∀ b, (φ id).1 = some b → w0.w.heap.size ≤ b ∨ w0.lent b
  inj : ∀ id id' c c' b, lk id S.own = some c → lk id' S.own = some c' → (φ id).1 = some b → (φ id').1 = some b → id = id'
  env : ∀ s d, lk s S.env = some d → ∃ v, tmps[s]? = some v ∧ Rep φ w (FSx φ S.own w) v d
  base : φ.base = w0.base
  pin : ∀ i, pinB ≤ i → φ i = w0.loc i

theorem SatC.newBase {w0 : Bas} {φ : Loc} {S : St} {tmps : Array Value} {w : World} (h : SatC w0 φ S tmps w) : φ.base w.heap.size := by
  rw [h.base]; exact w0.new _ h.below.size

theorem OwnOk.lt {w : World} {F : Nat → Prop} {φ : Loc} {id : Nat} {cs : List D} (h : OwnOk w F φ id cs) {b : Nat} (hb : (φ id).1 = some b) : b < w.heap.size := by
  unfold OwnOk at h
  rw [hb] at h
  obtain ⟨arr, T, fz, hh, _⟩ := h
  exact (Array.getElem?_eq_some_iff.1 hh).1

theorem OwnOk.mono {w w' : World} {F F' : Nat → Prop} {φ : Loc} {id : Nat} {cs : List D} (h : OwnOk w F φ id cs) (hw : ∀ b, F b → w'.heap[b]? = w.heap[b]?) (hF : ∀ b, F b → F' b)
    (hb : ∀ b, (φ id).1 = some b → w'.heap[b]? = w.heap[b]?) : OwnOk w' F' φ id cs := by
  unfold OwnOk at *
  split
  · rename_i e; rw [e] at h; exact ⟨fun i d hd => by obtain ⟨v, h1, h2⟩ := h.1 i d hd; exact ⟨v, h1, h2.mono hw hF⟩, h.2⟩
  · rename_i b e
    rw [e] at h
    obtain ⟨arr, T, fz, h1, h2, h3, h4, h5⟩ := h
    exact ⟨arr, T, fz, (hb b e).trans h1, h2, h3, h4, fun i v d hv hd => ⟨(h5 i v d hv hd).1.mono hw hF, (h5 i v d hv hd).2⟩⟩

/-- The world has grown, nothing that was there has turned: the state stands. -/
theorem SatC.ext {w0 : Bas} {w w' : World} {φ : Loc} {S : St} {tmps : Array Value} (h : SatC w0 φ S tmps w) (hb : Below w.heap.size w w') : SatC w0 φ S tmps w' := by
  have hF : ∀ b, FSx φ S.own w b → FSx φ S.own w' b := fun b hb' => ⟨Nat.lt_of_lt_of_le hb'.1 hb.size, hb'.2, hb'.3⟩
  have hw : ∀ b, FSx φ S.own w b → w'.heap[b]? = w.heap[b]? := fun b hb' => hb.block b hb'.1
  refine ⟨h.below.ext hb, h.size, fun id c hc => ⟨((h.own id c hc).1).mono hw hF fun b hb' => hb.block b ((h.own id c hc).1.lt hb'), (h.own id c hc).2⟩, h.inj, fun s d hd => ?_, h.base, h.pin⟩
  obtain ⟨v, hv, hr⟩ := h.env s d hd
  exact ⟨v, hv, hr.mono hw hF⟩

theorem FSx.ext {φ : Loc} {own : List (Nat × List D)} {w w' : World} (hb : Below w.heap.size w w') {b : Nat} (h : FSx φ own w b) : FSx φ own w' b := ⟨Nat.lt_of_lt_of_le h.1 hb.size, h.2, h.3⟩
theorem Rep.ext {φ : Loc} {own : List (Nat × List D)} {w w' : World} {v : Value} {d : D} (h : Rep φ w (FSx φ own w) v d) (hb : Below w.heap.size w w') : Rep φ w' (FSx φ own w') v d :=
  h.mono (fun b hb' => hb.block b hb'.1) fun _ => FSx.ext hb

/-- A slot is written. -/
theorem SatC.put {w0 : Bas} {w : World} {φ : Loc} {S : St} {tmps : Array Value} (h : SatC w0 φ S tmps w) {s : Nat} {v : Value} {d : D} (hs : s < S.n) (hr : Rep φ w (FSx φ S.own w) v d) :
    SatC w0 φ { S with env := (s, d) :: S.env } (tmps.setIfInBounds s v) w := by
  refine ⟨h.below, by simpa using h.size, h.own, h.inj, fun t e he => ?_, h.base, h.pin⟩
  simp only [lk] at he
  split at he
  · rename_i e1
    cases he; subst e1
    exact ⟨v, by rw [Array.getElem?_setIfInBounds_self_of_lt (by rw [h.size]; exact hs)], hr⟩
  · rename_i e1
    obtain ⟨u, hu, hr'⟩ := h.env t e he
    exact ⟨u, by rw [Array.getElem?_setIfInBounds_ne (fun x => e1 x.symm)]; exact hu, hr'⟩

#print axioms SatC.put
end Go.Abs
end
section
namespace Go.Abs
open Go.RowKit (Below)

def inR (k : IntKind) (n : Int) : Prop := k.min ≤ n ∧ n ≤ k.max
theorem inR_i64 (n : Int) : inR .i64 n = (-9223372036854775808 ≤ n ∧ n ≤ 9223372036854775807) := rfl
theorem inR_i32 (n : Int) : inR .i32 n = (-2147483648 ≤ n ∧ n ≤ 2147483647) := rfl
theorem inR_i16 (n : Int) : inR .i16 n = (-32768 ≤ n ∧ n ≤ 32767) := rfl
theorem inR_i8 (n : Int) : inR .i8 n = (-128 ≤ n ∧ n ≤ 127) := rfl
theorem inR_u64 (n : Int) : inR .u64 n = (0 ≤ n ∧ n ≤ 18446744073709551615) := rfl
theorem inR_u32 (n : Int) : inR .u32 n = (0 ≤ n ∧ n ≤ 4294967295) := rfl
theorem inR_u16 (n : Int) : inR .u16 n = (0 ≤ n ∧ n ≤ 65535) := rfl
theorem inR_u8 (n : Int) : inR .u8 n = (0 ≤ n ∧ n ≤ 255) := rfl

theorem wrap_of_inR {k : IntKind} {n : Int} (h : inR k n) : k.wrap n = n := by
  cases k
  · exact IntWalk.i8_in n h
  · exact IntWalk.i16_in n h
  · exact IntWalk.i32_in n h
  · exact IntWalk.i64_in n h
  · exact IntWalk.u8_in n h
  · exact IntWalk.u16_in n h
  · exact IntWalk.u32_in n h
  · exact IntWalk.u64_in n h

theorem inR_wrap (k : IntKind) (n : Int) : inR k (k.wrap n) := by
  cases k <;> simp only [inR, IntKind.min, IntKind.max, IntKind.wrap, IntKind.signed, IntKind.bits] <;> simp <;> (try split) <;> omega

/-! ### Operands -/
def bD (b : UInt8) : D := .int .u8 b.toNat

def lkW (t : Nat) : List (Nat × D) → (D → Prop) → Prop
  | [], _ => False
  | (s, d) :: r, k => if t = s then k d else lkW t r k
theorem lkW_cons (t s : Nat) (d : D) (r : List (Nat × D)) (k : D → Prop) : lkW t ((s, d) :: r) k = if t = s then k d else lkW t r k := _root_.id rfl
theorem lkW_ok {t : Nat} {env : List (Nat × D)} {k : D → Prop} (h : lkW t env k) : ∃ d, lk t env = some d ∧ k d := by
  induction env with
  | nil => exact h.elim
  | cons p r ih =>
    obtain ⟨s, d⟩ := p
    rw [lkW_cons] at h
    simp only [lk]
    split at h
    · rename_i e; exact ⟨d, by rw [if_pos e], h⟩
    · rename_i e; rw [if_neg e]; exact ih h

/-- A scalar as data. -/
def dS : Value → D
  | .bool b => .bool b
  | .int k n => if k.min ≤ n ∧ n ≤ k.max then .int k n else .any
  | .string s => if s.data.toList.length ≤ maxLen then .str s.data.toList else .any
  | .slice none 0 0 => .nils
  | _ => .any
def constW (v : Value) (k : D → Prop) : Prop :=
  match v with
  | .bool b => k (.bool b)
  | .int kk n => inR kk n ∧ k (.int kk n)
  | .string s => s.data.toList.length ≤ maxLen ∧ k (.str s.data.toList)
  | .slice none 0 0 => k .nils
  | .agg vs => vs.all Value.oneCell' = true ∧ k (.agg (vs.toList.map dS))
  | _ => k .any
theorem constW_bool (b : Bool) (k : D → Prop) : constW (.bool b) k = k (.bool b) := _root_.id rfl
theorem constW_int (kk : IntKind) (n : Int) (k : D → Prop) : constW (.int kk n) k = (inR kk n ∧ k (.int kk n)) := _root_.id rfl
theorem constW_string (s : ByteArray) (k : D → Prop) : constW (.string s) k = (s.data.toList.length ≤ maxLen ∧ k (.str s.data.toList)) := _root_.id rfl
theorem constW_nils (k : D → Prop) : constW (.slice none 0 0) k = k .nils := _root_.id rfl
theorem dS_ok (w : World) (F : Nat → Prop) (v : Value) : RepR w F v (dS v) := by
  unfold dS
  split
  · exact .bool
  · split
    · rename_i h; exact .int h.1 h.2
    · exact .any _
  · split
    · rename_i h; exact .str rfl h
    · exact .any _
  · exact .nils
  · exact .any _

theorem constW_ok {w : World} {F : Nat → Prop} {v : Value} {k : D → Prop} (h : constW v k) : ∃ d, k d ∧ RepR w F v d := by
  unfold constW at h
  split at h
  · exact ⟨_, h, .bool⟩
  · exact ⟨_, h.2, .int h.1.1 h.1.2⟩
  · exact ⟨_, h.2, .str rfl h.1⟩
  · exact ⟨_, h, .nils⟩
  · rename_i vs
    refine ⟨_, h.2, .agg (by simp) ?_ ?_⟩
    · intro i v hv
      have := Array.all_eq_true.1 h.1
      obtain ⟨hi, rfl⟩ := Array.getElem?_eq_some_iff.1 hv
      exact this i hi
    · intro i v d hv hd
      simp only [List.getElem?_map, Array.getElem?_toList, hv, Option.map_some, Option.some.injEq] at hd
      subst hd
      exact dS_ok w F v
  · exact ⟨_, h, .any _⟩

def GOk (G : Glob) (w0 : Bas) : Prop := w0.G = G

def glW (g : Nat) : Glob → (D → Prop) → Prop
  | [], k => k .any
  | (s, cs) :: r, k => if g = s then k (.rop cs 0) else glW g r k
theorem glW_cons (g s : Nat) (cs : List D) (r : Glob) (k : D → Prop) : glW g ((s, cs) :: r) k = if g = s then k (.rop cs 0) else glW g r k := _root_.id rfl
theorem glW_ok {g : Nat} {G : Glob} {k : D → Prop} (h : glW g G k) : (∃ cs, lk g G = some cs ∧ k (.rop cs 0)) ∨ k .any := by
  induction G with
  | nil => exact .inr h
  | cons p r ih =>
    obtain ⟨s, cs⟩ := p
    rw [glW_cons] at h
    simp only [lk]
    split at h
    · rename_i e; exact .inl ⟨cs, by rw [if_pos e], h⟩
    · rename_i e; rw [if_neg e]; exact ih h

def evW (G : Glob) (S : St) (x : Operand) (k : D → Prop) : Prop :=
  match x with
  | .tmp t => lkW t S.env k
  | .const v => constW v k
  | .global g => glW g G k
  | .func f => k (.fn f [])
theorem evW_tmp (G : Glob) (n nx : Nat) (env : List (Nat × D)) (own : List (Nat × List D)) (t : Nat) (k : D → Prop) : evW G ⟨n, nx, env, own⟩ (.tmp t) k = lkW t env k := _root_.id rfl
theorem evW_const (G : Glob) (S : St) (v : Value) (k : D → Prop) : evW G S (.const v) k = constW v k := _root_.id rfl
theorem evW_global (G : Glob) (S : St) (g : Nat) (k : D → Prop) : evW G S (.global g) k = glW g G k := _root_.id rfl
theorem evW_func (G : Glob) (S : St) (f : Nat) (k : D → Prop) : evW G S (.func f) k = k (.fn f []) := _root_.id rfl

/-- What lay there when the call began, and belongs to the program, lies there still, and nobody writes it. -/
theorem glob_ok {G : Glob} {w0 : Bas} {w : World} {φ : Loc} {S : St} {tmps : Array Value} (hG : GOk G w0) (h : SatC w0 φ S tmps w) {g : Nat} {cs : List D} (hg : lk g G = some cs) :
    RepR w (FSx φ S.own w) (.pointer (some ⟨g, 0, none⟩)) (.rop cs 0) :=
  (w0.gok g cs (by rw [hG]; exact hg)).mono (fun b hb => h.below.block b hb.2.1 hb.2.2) fun b hb => ⟨Nat.lt_of_lt_of_le hb.2.1 h.below.size, fun id c hc e => by rcases (h.own id c hc).2 b e with h1 | h1; (have := hb.2.1; omega); exact hb.2.2 h1, by rw [h.base]; exact hb.1⟩

theorem evW_ok {G : Glob} {w0 : Bas} {w : World} {φ : Loc} {S : St} {a : Act} (hG : GOk G w0) (hs : SatC w0 φ S a.tmps w) {x : Operand} {k : D → Prop} (h : evW G S x k) :
    ∃ d, k d ∧ Rep φ w (FSx φ S.own w) (a.eval x) d := by
  unfold evW at h
  split at h
  · obtain ⟨d, hd, hk⟩ := lkW_ok h
    obtain ⟨v, hv, hr⟩ := hs.env _ _ hd
    exact ⟨d, hk, by simp only [Act.eval, Array.getD_eq_getD_getElem?, hv, Option.getD_some]; exact hr⟩
  · obtain ⟨d, hk, hr⟩ := constW_ok h
    exact ⟨d, hk, .ro hr⟩
  · rcases glW_ok h with ⟨cs, hg, hk⟩ | hk
    · exact ⟨_, hk, .ro (glob_ok hG hs hg)⟩
    · exact ⟨_, hk, .ro (.any _)⟩
  · exact ⟨_, h, .ro (.fn (by simp) (fun i v d hv _ => by simp at hv))⟩

/-! ### Inversions -/
section
variable {φ : Loc} {w : World} {F : Nat → Prop} {v : Value}
theorem Rep.int_inv {k : IntKind} {n : Int} (h : Rep φ w F v (.int k n)) : v = .int k n ∧ inR k n := by
  cases h with | ro h => cases h with | int a b => exact ⟨rfl, a, b⟩
theorem Rep.bool_inv {b : Bool} (h : Rep φ w F v (.bool b)) : v = .bool b := by
  cases h with | ro h => cases h; rfl
theorem Rep.str_inv {s : List UInt8} (h : Rep φ w F v (.str s)) : ∃ b, v = .string b ∧ b.data.toList = s ∧ s.length ≤ maxLen := by
  cases h with | ro h => cases h with | str a b => exact ⟨_, rfl, a, b⟩
theorem Rep.tup_inv {ds : List D} (h : Rep φ w F v (.tup ds)) : ∃ vs : Array Value, v = .tuple vs ∧ vs.size = ds.length ∧ (∀ (i : Nat) (v : Value) (d : D), vs[i]? = some v → ds[i]? = some d → RepR w F v d) := by
  cases h with | ro h => cases h with | tup a b => exact ⟨_, rfl, a, b⟩
end

/-! ### Arithmetic -/
/-- A sum, a difference, a product: exact where the kind is signed (that it fits is owed), cut where it is not. -/
def wrW (kk : IntKind) (n : Int) (k : D → Prop) : Prop :=
  match kk with
  | .i64 | .i32 | .i16 | .i8 => inR kk n ∧ k (.int kk n)
  | _ => k (.int kk (kk.wrap n))
theorem wrW_i64 (n : Int) (k : D → Prop) : wrW .i64 n k = (inR .i64 n ∧ k (.int .i64 n)) := _root_.id rfl
theorem wrW_u64 (n : Int) (k : D → Prop) : wrW .u64 n k = k (.int .u64 (IntKind.u64.wrap n)) := _root_.id rfl
theorem wrW_u32 (n : Int) (k : D → Prop) : wrW .u32 n k = k (.int .u32 (IntKind.u32.wrap n)) := _root_.id rfl
theorem wrW_u8 (n : Int) (k : D → Prop) : wrW .u8 n k = k (.int .u8 (IntKind.u8.wrap n)) := _root_.id rfl
theorem wrW_ok {kk : IntKind} {n : Int} {k : D → Prop} (h : wrW kk n k) : inR kk (kk.wrap n) ∧ k (.int kk (kk.wrap n)) := by
  refine ⟨inR_wrap kk n, ?_⟩
  cases kk <;> first | exact h | (rw [wrap_of_inR h.1]; exact h.2)

def isSigned : IntKind → Bool
  | .i64 | .i32 | .i16 | .i8 => true
  | _ => false

def intW (op : BinOp) (kk : IntKind) (x y : Int) (k : D → Prop) : Prop :=
  match op with
  | .add => wrW kk (x + y) k
  | .sub => wrW kk (x - y) k
  | .mul => wrW kk (x * y) k
  | .quo => y ≠ 0 ∧ (if isSigned kk = true then inR kk (x.tdiv y) ∧ k (.int kk (x.tdiv y)) else k (.int kk (x / y)))
  | .rem => y ≠ 0 ∧ (if isSigned kk = true then k (.int kk (x.tmod y)) else k (.int kk (x % y)))
  | .and => k (.int kk (bits .and kk x y))
  | .or => k (.int kk (bits .or kk x y))
  | .xor => k (.int kk (bits .xor kk x y))
  | .andNot => k (.int kk (bits .andNot kk x y))
  | .eql => k (.bool (decide (x = y)))
  | .neq => k (.bool (decide (x ≠ y)))
  | .lss => k (.bool (decide (x < y)))
  | .leq => k (.bool (decide (x ≤ y)))
  | .gtr => k (.bool (decide (y < x)))
  | .geq => k (.bool (decide (y ≤ x)))
  | _ => False
section
variable (kk : IntKind) (x y : Int) (k : D → Prop)
end

theorem inR_bits (op : BinOp) (kk : IntKind) (x y : Int) : inR kk (bits op kk x y) := inR_wrap _ _

theorem inR_le {kk : IntKind} {a b : Int} (h : inR kk a) (h0 : 0 ≤ b) (h1 : b ≤ a) : inR kk b := by
  have hm : kk.min ≤ 0 := by cases kk <;> decide
  exact ⟨Int.le_trans hm h0, Int.le_trans h1 h.2⟩

theorem tdiv_unsigned {kk : IntKind} {x y : Int} (hk : isSigned kk = false) (hx : inR kk x) (hy : inR kk y) (h0 : y ≠ 0) : kk.wrap (x.tdiv y) = x / y ∧ inR kk (x / y) ∧ x.tmod y = x % y ∧ inR kk (x % y) := by
  have hx0 : 0 ≤ x := by cases kk <;> simp [isSigned] at hk <;> exact hx.1
  have hy0 : 0 ≤ y := by cases kk <;> simp [isSigned] at hk <;> exact hy.1
  have h1 := IntWalk.tdiv_le x y hx0 (by omega)
  have h2 : 0 ≤ x % y := Int.emod_nonneg _ h0
  have h3 : x % y < y := Int.emod_lt_of_pos _ (by omega)
  have hq : inR kk (x / y) := inR_le hx h1.1 h1.2
  refine ⟨?_, hq, IntWalk.rem_in x y hx0, ?_⟩
  · rw [Int.tdiv_eq_ediv_of_nonneg hx0]; exact wrap_of_inR hq
  · exact inR_le hy h2 (by omega)

theorem tmod_signed {kk : IntKind} {x y : Int} (hk : isSigned kk = true) (hx : inR kk x) : inR kk (x.tmod y) := by
  have h1 : (x.tmod y).natAbs ≤ x.natAbs := by
    rw [Int.natAbs_tmod]; exact Nat.mod_le _ _
  have h2 : 0 ≤ x → 0 ≤ x.tmod y := fun h => Int.tmod_nonneg y h
  have h3 : x ≤ 0 → x.tmod y ≤ 0 := fun h => by
    have := Int.tmod_nonneg y (show 0 ≤ -x by omega)
    rw [Int.neg_tmod] at this; omega
  have h4 : (0 ≤ x → x.tmod y ≤ x) ∧ (x ≤ 0 → x ≤ x.tmod y) := by omega
  clear h1
  cases kk <;> simp [isSigned] at hk <;> simp only [inR, IntKind.min, IntKind.max, IntKind.signed, IntKind.bits] at * <;> simp at * <;> omega

theorem beqI (x y : Int) : (x == y) = decide (x = y) := Bool.eq_iff_iff.2 (by simp)
theorem bneI (x y : Int) : (x != y) = decide (x ≠ y) := Bool.eq_iff_iff.2 (by simp)

/-- The machine's two operands of one kind, and what comes of them. -/
theorem intW_ok {P : Program} {w : World} {op : BinOp} {kk : IntKind} {x y : Int} {k : D → Prop} (hx : inR kk x) (hy : inR kk y) (h : intW op kk x y k) (hop : op ≠ .shl) (hop' : op ≠ .shr) (t : TypeId) :
    ∃ v d, (binOp op t (.int kk x) (.int kk y)).run P w = .ok v w ∧ k d ∧ ∀ F, RepR w F v d := by
  cases op <;> simp only [intW] at h <;> first | (exact (hop rfl).elim) | (exact (hop' rfl).elim) | (exact h.elim) | skip
  case add => exact ⟨_, _, by simp [binOp, Op.intArith], (wrW_ok h).2, fun F => .int (wrW_ok h).1.1 (wrW_ok h).1.2⟩
  case sub => exact ⟨_, _, by simp [binOp, Op.intArith], (wrW_ok h).2, fun F => .int (wrW_ok h).1.1 (wrW_ok h).1.2⟩
  case mul => exact ⟨_, _, by simp [binOp, Op.intArith], (wrW_ok h).2, fun F => .int (wrW_ok h).1.1 (wrW_ok h).1.2⟩
  case quo =>
    obtain ⟨h0, h⟩ := h
    by_cases hsg : isSigned kk = true
    · rw [if_pos hsg] at h
      refine ⟨.int kk (x.tdiv y), _, ?_, h.2, fun F => .int h.1.1 h.1.2⟩
      simp [binOp, Op.intDiv, h0, wrap_of_inR h.1]
    · rw [if_neg hsg] at h
      obtain ⟨e1, e2, e3, e4⟩ := tdiv_unsigned (by simpa using hsg) hx hy h0
      refine ⟨.int kk (x / y), _, ?_, h, fun F => .int e2.1 e2.2⟩
      simp [binOp, Op.intDiv, h0, e1]
  case rem =>
    obtain ⟨h0, h⟩ := h
    by_cases hsg : isSigned kk = true
    · rw [if_pos hsg] at h
      have := tmod_signed (y := y) hsg hx
      refine ⟨.int kk (x.tmod y), _, ?_, h, fun F => .int this.1 this.2⟩
      simp [binOp, Op.intDiv, h0]
    · rw [if_neg hsg] at h
      obtain ⟨e1, e2, e3, e4⟩ := tdiv_unsigned (by simpa using hsg) hx hy h0
      refine ⟨.int kk (x % y), _, ?_, h, fun F => .int e4.1 e4.2⟩
      simp [binOp, Op.intDiv, h0, e3]
  case and => exact ⟨_, _, by simp only [binOp, ne_eq, not_true_eq_false, if_false]; rfl, h, fun F => .int (inR_bits .and kk x y).1 (inR_bits .and kk x y).2⟩
  case or => exact ⟨_, _, by simp only [binOp, ne_eq, not_true_eq_false, if_false]; rfl, h, fun F => .int (inR_bits .or kk x y).1 (inR_bits .or kk x y).2⟩
  case xor => exact ⟨_, _, by simp only [binOp, ne_eq, not_true_eq_false, if_false]; rfl, h, fun F => .int (inR_bits .xor kk x y).1 (inR_bits .xor kk x y).2⟩
  case andNot => exact ⟨_, _, by simp only [binOp, ne_eq, not_true_eq_false, if_false]; rfl, h, fun F => .int (inR_bits .andNot kk x y).1 (inR_bits .andNot kk x y).2⟩
  case eql => exact ⟨.bool (decide (x = y)), _, by simp only [binOp, Op.intCmp, beqI, ne_eq, not_true_eq_false, if_false, Sem.run_pure], h, fun F => .bool⟩
  case neq => exact ⟨.bool (decide (x ≠ y)), _, by simp only [binOp, Op.intCmp, bneI, ne_eq, not_true_eq_false, if_false, Sem.run_pure], h, fun F => .bool⟩
  case lss => exact ⟨.bool (decide (x < y)), _, by simp [binOp, Op.intCmp], h, fun F => .bool⟩
  case leq => exact ⟨.bool (decide (x ≤ y)), _, by simp [binOp, Op.intCmp], h, fun F => .bool⟩
  case gtr => exact ⟨.bool (decide (y < x)), _, by simp [binOp, Op.intCmp], h, fun F => .bool⟩
  case geq => exact ⟨.bool (decide (y ≤ x)), _, by simp [binOp, Op.intCmp], h, fun F => .bool⟩

/-! ### Shifts -/
def shlI (kk : IntKind) (x y : Int) : Int := kk.wrap (x * 2 ^ (min y.toNat kk.bits))
def shrI (kk : IntKind) (x y : Int) : Int := x / 2 ^ (min y.toNat kk.bits)

theorem inR_shr {kk : IntKind} {x y : Int} (h : inR kk x) : inR kk (shrI kk x y) := by
  unfold shrI
  have hp : (0 : Int) < 2 ^ (min y.toNat kk.bits) := Int.pow_pos (by decide)
  generalize (2 : Int) ^ (min y.toNat kk.bits) = m at *
  have h1 : 0 ≤ x → 0 ≤ x / m ∧ x / m ≤ x := fun h0 => ⟨Int.ediv_nonneg h0 (by omega), Int.ediv_le_self _ h0⟩
  have h2 : x < 0 → x ≤ x / m ∧ x / m < 0 := fun h0 => ⟨by
      have := Int.ediv_mul_le x (show m ≠ 0 by omega)
      have h3 : x / m < 0 := Int.ediv_neg_of_neg_of_pos h0 hp
      have : x * m ≤ x := by
        have h := Int.mul_nonneg (show 0 ≤ -x by omega) (show 0 ≤ m - 1 by omega)
        rw [Int.neg_mul, Int.mul_sub, Int.mul_one] at h
        omega
      exact (Int.le_ediv_iff_mul_le hp).2 this, Int.ediv_neg_of_neg_of_pos h0 hp⟩
  by_cases h0 : 0 ≤ x
  · exact inR_le h (h1 h0).1 (h1 h0).2
  · have := h2 (by omega)
    have hm : 0 ≤ kk.max := by cases kk <;> decide
    exact ⟨Int.le_trans h.1 this.1, by omega⟩

def isSh : BinOp → Bool
  | .shl | .shr => true
  | _ => false

/-! ### Strings -/
def strW (op : BinOp) (a b : List UInt8) (k : D → Prop) : Prop :=
  match op with
  | .add => a.length + b.length ≤ maxLen ∧ k (.str (a ++ b))
  | .eql => k (.bool (decide (a = b)))
  | .neq => k (.bool (decide (a ≠ b)))
  | .lss => k (.bool (Op.bytesLess a b))
  | _ => False
theorem ba_toList (s : ByteArray) : s.toList = s.data.toList := ByteArray.toList_eq s
theorem ba_size (s : ByteArray) : s.size = s.data.toList.length := by cases s; rfl

theorem strW_ok {P : Program} {w : World} {op : BinOp} {x y : ByteArray} {a b : List UInt8} {k : D → Prop} (hx : x.data.toList = a) (hy : y.data.toList = b) (h : strW op a b k) (t : TypeId) :
    ∃ v d, (binOp op t (.string x) (.string y)).run P w = .ok v w ∧ k d ∧ ∀ F, RepR w F v d := by
  subst hx; subst hy
  cases op <;> simp only [strW] at h <;> first | (exact h.elim) | skip
  case add =>
    refine ⟨.string (x ++ y), _, ?_, h.2, fun F => .str (by simp) (by simpa using h.1)⟩
    have h1 := h.1
    simp only [maxLen] at h1
    have : ¬ (((x.size + y.size : Nat) : Int) > IntKind.i64.max) := by
      have : IntKind.i64.max = 9223372036854775807 := by decide
      rw [this, ba_size, ba_size]
      omega
    simp only [binOp, Op.stringOp, if_neg this, Sem.run_pure]
  case eql => exact ⟨.bool (x.data.toList == y.data.toList), _, by simp only [binOp, Op.stringOp, ba_toList, Sem.run_pure], h, fun F => by rw [show (x.data.toList == y.data.toList) = decide (x.data.toList = y.data.toList) from Bool.eq_iff_iff.2 (by simp)]; exact .bool⟩
  case neq => exact ⟨.bool (!(x.data.toList == y.data.toList)), _, by simp only [binOp, Op.stringOp, ba_toList, Sem.run_pure], h, fun F => by rw [show (!(x.data.toList == y.data.toList)) = decide (x.data.toList ≠ y.data.toList) from Bool.eq_iff_iff.2 (by simp)]; exact .bool⟩
  case lss => exact ⟨.bool _, _, by simp only [binOp, Op.stringOp, ba_toList, Sem.run_pure], h, fun F => .bool⟩

#print axioms intW_ok
#print axioms strW_ok
end Go.Abs
end
section
namespace Go.Abs
open Go.RowKit (Below)

/-! ### The program's types -/
inductive TY where
  | int (k : IntKind) | bool | str | slice (e : TypeId) | arr (n : Nat) (e : TypeId) | struct (fs : List (Nat × TypeId)) | ptr (e : TypeId) | func | map (k e : TypeId) | other

def tyOf (P : Program) (t : TypeId) : TY :=
  match P.underlying t with
  | some (.int k) => .int k
  | some .bool => .bool
  | some .string => .str
  | some (.slice e) => .slice e
  | some (.array n e) => .arr n e
  | some (.struct fs) => .struct (fs.toList.map fun f => (f.offset, f.type))
  | some (.pointer e) => .ptr e
  | some (.func _ _ _) => .func
  | some (.map k e) => .map k e
  | _ => .other
def tyW (P : Program) (t : TypeId) (k : TY → Prop) : Prop := k (tyOf P t)
def szW (P : Program) (t : TypeId) (k : Nat → Prop) : Prop := match P.info? t with | some i => k i.size | none => False
def byW (P : Program) (t : TypeId) (k : Nat → Prop) : Prop := match P.info? t with | some i => k i.bytes | none => False
def zeroW (P : Program) (t : TypeId) (k : List D → Prop) : Prop :=
  match P.info? t with
  | some i => match i.zero with | some v => v.cells.all Value.oneCell' = true ∧ k (v.cells.toList.map dS) | none => False
  | none => False

theorem szW_ok {P : Program} {t : TypeId} {k : Nat → Prop} (h : szW P t k) : ∃ i, P.info? t = some i ∧ k i.size := by
  unfold szW at h; split at h
  · rename_i i e; exact ⟨i, e, h⟩
  · exact h.elim
theorem byW_ok {P : Program} {t : TypeId} {k : Nat → Prop} (h : byW P t k) : ∃ i, P.info? t = some i ∧ k i.bytes := by
  unfold byW at h; split at h
  · rename_i i e; exact ⟨i, e, h⟩
  · exact h.elim
theorem zeroW_ok {P : Program} {t : TypeId} {k : List D → Prop} (h : zeroW P t k) : ∃ i v, P.info? t = some i ∧ i.zero = some v ∧ v.cells.all Value.oneCell' = true ∧ k (v.cells.toList.map dS) := by
  unfold zeroW at h; split at h
  · rename_i i e
    split at h
    · rename_i v e2; exact ⟨i, v, e, e2, h.1, h.2⟩
    · exact h.elim
  · exact h.elim

section
variable {P : Program} {t : TypeId}
theorem tyOf_slice {e : TypeId} (h : tyOf P t = .slice e) : P.underlying t = some (.slice e) := by
  unfold tyOf at h; split at h <;> simp_all
theorem tyOf_arr {n : Nat} {e : TypeId} (h : tyOf P t = .arr n e) : P.underlying t = some (.array n e) := by
  unfold tyOf at h; split at h <;> simp_all
theorem tyOf_str (h : tyOf P t = .str) : P.underlying t = some .string := by
  unfold tyOf at h; split at h <;> simp_all
theorem tyOf_bool (h : tyOf P t = .bool) : P.underlying t = some .bool := by
  unfold tyOf at h; split at h <;> simp_all
theorem tyOf_int {k : IntKind} (h : tyOf P t = .int k) : P.underlying t = some (.int k) := by
  unfold tyOf at h; split at h <;> simp_all
theorem tyOf_struct {fs : List (Nat × TypeId)} (h : tyOf P t = .struct fs) : ∃ a : Array Field, P.underlying t = some (.struct a) ∧ fs = a.toList.map fun f => (f.offset, f.type) := by
  unfold tyOf at h; split at h <;> simp_all
end

/-- Is a value of this type several cells, written as one (a struct, an array)? -/
def isAg : TY → Option Bool
  | .struct _ | .arr _ _ => some true
  | .other => none
  | _ => some false
theorem run_isAgg {P : Program} {t : TypeId} {b : Bool} (h : isAg (tyOf P t) = some b) (w : World) : (isAgg t).run P w = .ok b w := by
  unfold tyOf at h
  generalize hu : P.underlying t = u at h
  cases u with
  | none => simp [isAg] at h
  | some d => cases d <;> simp_all [isAg, isAgg, underlying]

/-! ### A block of the call's own is made -/
def purge (id : Nat) (env : List (Nat × D)) : List (Nat × D) := env.map fun p => (p.1, if mn id p.2 = true then .any else p.2)
theorem lk_purge {id s : Nat} {env : List (Nat × D)} {d : D} (h : lk s (purge id env) = some d) : d = .any ∧ (∃ d', lk s env = some d') ∨ (lk s env = some d ∧ mn id d = false) := by
  induction env with
  | nil => simp [purge, lk] at h
  | cons p r ih =>
    obtain ⟨t, e⟩ := p
    simp only [purge, List.map_cons, lk] at h ⊢
    split at h
    · rename_i e1
      simp only [if_pos e1]
      by_cases hm : mn id e = true
      · rw [if_pos hm] at h; cases h; exact .inl ⟨rfl, _, rfl⟩
      · rw [if_neg hm] at h; cases h; exact .inr ⟨rfl, by simpa using hm⟩
    · rename_i e1
      simp only [if_neg e1]
      exact ih h

/-- No own block's cells but those of 'id' name 'id'. -/
structure NM (id : Nat) (own : List (Nat × List D)) : Prop where
  lt : id < pinB
  nm : ∀ i c, lk i own = some c → i ≠ id → ∀ d ∈ c, mn id d = false

theorem FS_alloc {φ : Loc} {own : List (Nat × List D)} {w : World} {id m : Nat} {o : Obj} {cs : List D} {b : Nat} (h : FSx φ own w b) : FSx (upd φ id (some w.heap.size, m)) ((id, cs) :: own) (w.alloc o) b := by
  refine ⟨Nat.lt_of_lt_of_le h.1 (by simp), fun i c hc => ?_, h.3⟩
  simp only [lk] at hc
  split at hc
  · rename_i e; subst e; rw [upd_same]; intro e; have := h.1; simp at e; omega
  · rename_i e; rw [upd_other _ _ e]; exact h.2 i c hc

theorem SatC.new {w0 : Bas} {w : World} {φ : Loc} {S : St} {tmps : Array Value} (h : SatC w0 φ S tmps w) (arr : Array Value) (T : TypeId) (fz : Nat × Nat) (cs : List D)
    (hfz : ∀ o, o < arr.size → ¬ (fz.1 ≤ o ∧ o < fz.2)) (hlen : cs.length ≤ arr.size)
    (hcs : ∀ (i : Nat) (v : Value) (d : D), arr[i]? = some v → cs[i]? = some d → Rep φ w (FSx φ S.own w) v d ∧ v.oneCell' = true ∧ mn S.nx d = false) (hnm : NM S.nx S.own) :
    SatC w0 (Abs.upd φ S.nx (some w.heap.size, arr.size)) ⟨S.n, S.nx + 1, purge S.nx S.env, (S.nx, cs) :: S.own⟩ tmps (w.alloc (.cells arr T fz)) := by
  have hw : ∀ b, FSx φ S.own w b → (w.alloc (.cells arr T fz)).heap[b]? = w.heap[b]? := fun b hb => Below.heap_alloc _ _ _ hb.1
  have hF : ∀ b, FSx φ S.own w b → FSx (Abs.upd φ S.nx (some w.heap.size, arr.size)) ((S.nx, cs) :: S.own) (w.alloc (.cells arr T fz)) b := fun b hb => FS_alloc hb
  refine ⟨h.below.alloc _, h.size, fun id c hc => ?_, fun id id' c c' b hc hc' hb hb' => ?_, fun s d hd => ?_, h.base, fun i hi => by rw [upd_other _ _ (by have := hnm.lt; omega)]; exact h.pin i hi⟩
  · simp only [lk] at hc
    split at hc
    · rename_i e; cases hc; subst e
      refine ⟨?_, fun b hb => by rw [upd_same] at hb; cases hb; exact .inl h.below.size⟩
      unfold OwnOk
      rw [upd_same]
      exact ⟨arr, T, fz, heap_alloc_new w _, rfl, hfz, hlen, fun i v d hv hd => ⟨((hcs i v d hv hd).1.mono hw hF).upd (hcs i v d hv hd).2.2, (hcs i v d hv hd).2.1⟩⟩
    · rename_i e
      obtain ⟨h1, h2⟩ := h.own id c hc
      refine ⟨?_, fun b hb => h2 b (by rwa [upd_other _ _ e] at hb)⟩
      unfold OwnOk at h1 ⊢
      rw [upd_other _ _ e]
      split
      · rename_i e1; rw [e1] at h1; exact ⟨fun i d hd => by obtain ⟨v, a1, a2⟩ := h1.1 i d hd; exact ⟨v, a1, (a2.mono hw hF).upd (hnm.nm id c hc e d (List.mem_of_getElem? hd))⟩, h1.2⟩
      · rename_i b e1
        rw [e1] at h1
        obtain ⟨arr', T', fz', k1, k2, k3, k4, k5⟩ := h1
        exact ⟨arr', T', fz', (Below.heap_alloc _ _ _ (Array.getElem?_eq_some_iff.1 k1).1).trans k1, k2, k3, k4, fun i v d hv hd =>
          ⟨((k5 i v d hv hd).1.mono hw hF).upd (hnm.nm id c hc e d (List.mem_of_getElem? hd)), (k5 i v d hv hd).2⟩⟩
  · have key : ∀ i c'', lk i ((S.nx, cs) :: S.own) = some c'' → (Abs.upd φ S.nx (some w.heap.size, arr.size) i).1 = some b → (i = S.nx ∧ b = w.heap.size) ∨ (i ≠ S.nx ∧ lk i S.own = some c'' ∧ (φ i).1 = some b ∧ b < w.heap.size) := by
      intro i c'' hi hbi
      simp only [lk] at hi
      split at hi
      · rename_i e; subst e; rw [upd_same] at hbi; cases hbi; exact .inl ⟨rfl, rfl⟩
      · rename_i e; rw [upd_other _ _ e] at hbi; exact .inr ⟨e, hi, hbi, (h.own i _ hi).1.lt hbi⟩
    rcases key id c hc hb with ⟨e1, e2⟩ | ⟨e1, e2, e3, e4⟩ <;> rcases key id' c' hc' hb' with ⟨f1, f2⟩ | ⟨f1, f2, f3, f4⟩
    · rw [e1, f1]
    · omega
    · omega
    · exact h.inj id id' c c' b e2 f2 e3 f3
  · rcases lk_purge hd with ⟨rfl, d', hd'⟩ | ⟨hd', hm⟩
    · obtain ⟨v, hv, _⟩ := h.env s d' hd'
      exact ⟨v, hv, .ro (.any v)⟩
    · obtain ⟨v, hv, hr⟩ := h.env s d hd'
      exact ⟨v, hv, (hr.mono hw hF).upd hm⟩

/-! ### A block of the call's own is written -/
def setO (id : Nat) (cs : List D) : List (Nat × List D) → List (Nat × List D)
  | [] => []
  | (i, c) :: r => if id = i then (i, cs) :: r else (i, c) :: setO id cs r
theorem lk_setO_same {id : Nat} {cs c : List D} {own : List (Nat × List D)} (h : lk id own = some c) : lk id (setO id cs own) = some cs := by
  induction own with
  | nil => simp [lk] at h
  | cons p r ih =>
    obtain ⟨i, x⟩ := p
    simp only [lk, setO] at h ⊢
    split
    · rename_i e; simp [lk, e]
    · rename_i e; rw [if_neg e] at h; simp only [lk, if_neg e]; exact ih h
theorem lk_setO_other {id i : Nat} {cs : List D} {own : List (Nat × List D)} (h : i ≠ id) : lk i (setO id cs own) = lk i own := by
  induction own with
  | nil => rfl
  | cons p r ih =>
    obtain ⟨j, x⟩ := p
    simp only [lk, setO]
    by_cases e : id = j
    · rw [if_pos e]; subst e; simp [lk, h]
    · rw [if_neg e]; simp only [lk, ih]

theorem FS_setO {φ : Loc} {own : List (Nat × List D)} {w w' : World} {id : Nat} {cs c : List D} (hid : lk id own = some c) (hsz : w.heap.size ≤ w'.heap.size) {b : Nat} (h : FSx φ own w b) : FSx φ (setO id cs own) w' b := by
  refine ⟨Nat.lt_of_lt_of_le h.1 hsz, fun i x hx => ?_, h.3⟩
  by_cases e : i = id
  · subst e; exact h.2 i c hid
  · rw [lk_setO_other e] at hx; exact h.2 i x hx

theorem SatC.mod {w0 : Bas} {w w' : World} {φ : Loc} {S : St} {tmps : Array Value} (h : SatC w0 φ S tmps w) {id b : Nat} {c cs : List D} {arr : Array Value} {T : TypeId} {fz : Nat × Nat}
    (hid : lk id S.own = some c) (hb : (φ id).1 = some b) (hos : w'.os = w.os) (htape : w'.tape = w.tape) (hout : w'.output = w.output) (hsz : w'.heap.size = w.heap.size)
    (hoth : ∀ k, k ≠ b → w'.heap[k]? = w.heap[k]?) (hblk : w'.heap[b]? = some (.cells arr T fz)) (hsize : arr.size = (φ id).2) (hfz : ∀ o, o < arr.size → ¬ (fz.1 ≤ o ∧ o < fz.2)) (hlen : cs.length ≤ arr.size)
    (hcs : ∀ (i : Nat) (v : Value) (d : D), arr[i]? = some v → cs[i]? = some d → Rep φ w (FSx φ S.own w) v d ∧ v.oneCell' = true) :
    SatC w0 φ ⟨S.n, S.nx, S.env, setO id cs S.own⟩ tmps w' := by
  have hw : ∀ k, FSx φ S.own w k → w'.heap[k]? = w.heap[k]? := fun k hk => hoth k fun e => hk.2 id c hid (by rw [hb, e])
  have hF : ∀ k, FSx φ S.own w k → FSx φ (setO id cs S.own) w' k := fun k hk => FS_setO hid (by omega) hk
  have hB : w0.w.heap.size ≤ b ∨ w0.lent b := (h.own id c hid).2 b hb
  refine ⟨⟨hos.trans h.below.os, htape.trans h.below.tape, hout.trans h.below.output, by have := h.below.size; omega, fun k hk hl => (hoth k (fun e => hB.elim (fun h => absurd hk (by omega)) fun h => hl (by rw [e]; exact h))).trans (h.below.block k hk hl)⟩, h.size, fun i x hx => ?_, fun i i' x x' k hx hx' hk hk' => ?_, fun s d hd => ?_, h.base, h.pin⟩
  · by_cases e : i = id
    · subst e
      rw [lk_setO_same hid] at hx; cases hx
      refine ⟨?_, (h.own i c hid).2⟩
      unfold OwnOk
      rw [hb]
      exact ⟨arr, T, fz, hblk, hsize, hfz, hlen, fun j v d hv hd => ⟨(hcs j v d hv hd).1.mono hw hF, (hcs j v d hv hd).2⟩⟩
    · rw [lk_setO_other e] at hx
      refine ⟨(h.own i x hx).1.mono hw hF fun k hk => hoth k fun e2 => e (h.inj i id x c b hx hid (by rw [hk, e2]) hb), (h.own i x hx).2⟩
  · have key : ∀ j y, lk j (setO id cs S.own) = some y → ∃ z, lk j S.own = some z := by
      intro j y hy
      by_cases e : j = id
      · subst e; exact ⟨c, hid⟩
      · exact ⟨y, by rwa [lk_setO_other e] at hy⟩
    obtain ⟨z, hz⟩ := key i x hx
    obtain ⟨z', hz'⟩ := key i' x' hx'
    exact h.inj i i' z z' k hz hz' hk hk'
  · obtain ⟨v, hv, hr⟩ := h.env s d hd
    exact ⟨v, hv, hr.mono hw hF⟩

/-- .. or it is laid anew, elsewhere, with more cells. -/
theorem SatC.regrow {w0 : Bas} {w : World} {φ : Loc} {S : St} {tmps : Array Value} (h : SatC w0 φ S tmps w) {id : Nat} {c cs : List D} (arr : Array Value) (T : TypeId)
    (hid : lk id S.own = some c) (hlen : cs.length ≤ arr.size)
    (hcs : ∀ (i : Nat) (v : Value) (d : D), arr[i]? = some v → cs[i]? = some d → Rep φ w (FSx φ S.own w) v d ∧ v.oneCell' = true ∧ mn id d = false) (hnm : NM id S.own) :
    SatC w0 (Abs.upd φ id (some w.heap.size, arr.size)) ⟨S.n, S.nx, purge id S.env, setO id cs S.own⟩ tmps (w.alloc (.cells arr T)) := by
  have hw : ∀ b, FSx φ S.own w b → (w.alloc (.cells arr T)).heap[b]? = w.heap[b]? := fun b hb => Below.heap_alloc _ _ _ hb.1
  have hF : ∀ b, FSx φ S.own w b → FSx (Abs.upd φ id (some w.heap.size, arr.size)) (setO id cs S.own) (w.alloc (.cells arr T)) b := fun b hb => by
    refine ⟨Nat.lt_of_lt_of_le hb.1 (by simp), fun i x hx => ?_, hb.3⟩
    by_cases e : i = id
    · subst e; rw [upd_same]; intro e; have := hb.1; simp at e; omega
    · rw [upd_other _ _ e]; rw [lk_setO_other e] at hx; exact hb.2 i x hx
  refine ⟨h.below.alloc _, h.size, fun i x hx => ?_, fun i i' x x' b hx hx' hb hb' => ?_, fun s d hd => ?_, h.base, fun i hi => by rw [upd_other _ _ (by have := hnm.lt; omega)]; exact h.pin i hi⟩
  · by_cases e : i = id
    · subst e
      rw [lk_setO_same hid] at hx; cases hx
      refine ⟨?_, fun b hb => by rw [upd_same] at hb; cases hb; exact .inl h.below.size⟩
      unfold OwnOk
      rw [upd_same]
      exact ⟨arr, T, (0, 0), heap_alloc_new w _, rfl, fun o _ => by simp, hlen, fun j v d hv hd => ⟨((hcs j v d hv hd).1.mono hw hF).upd (hcs j v d hv hd).2.2, (hcs j v d hv hd).2.1⟩⟩
    · rw [lk_setO_other e] at hx
      obtain ⟨h1, h2⟩ := h.own i x hx
      refine ⟨?_, fun b hb => h2 b (by rwa [upd_other _ _ e] at hb)⟩
      unfold OwnOk at h1 ⊢
      rw [upd_other _ _ e]
      split
      · rename_i e1; rw [e1] at h1; exact ⟨fun j d hd => by obtain ⟨v, a1, a2⟩ := h1.1 j d hd; exact ⟨v, a1, (a2.mono hw hF).upd (hnm.nm i x hx e d (List.mem_of_getElem? hd))⟩, h1.2⟩
      · rename_i b e1
        rw [e1] at h1
        obtain ⟨arr', T', fz', k1, k2, k3, k4, k5⟩ := h1
        exact ⟨arr', T', fz', (Below.heap_alloc _ _ _ (Array.getElem?_eq_some_iff.1 k1).1).trans k1, k2, k3, k4, fun j v d hv hd =>
          ⟨((k5 j v d hv hd).1.mono hw hF).upd (hnm.nm i x hx e d (List.mem_of_getElem? hd)), (k5 j v d hv hd).2⟩⟩
  · have key : ∀ j y, lk j (setO id cs S.own) = some y → (Abs.upd φ id (some w.heap.size, arr.size) j).1 = some b → (j = id ∧ b = w.heap.size) ∨ (j ≠ id ∧ lk j S.own = some y ∧ (φ j).1 = some b ∧ b < w.heap.size) := by
      intro j y hj hbj
      by_cases e : j = id
      · subst e; rw [upd_same] at hbj; cases hbj; exact .inl ⟨rfl, rfl⟩
      · rw [upd_other _ _ e] at hbj; rw [lk_setO_other e] at hj; exact .inr ⟨e, hj, hbj, (h.own j _ hj).1.lt hbj⟩
    rcases key i x hx hb with ⟨e1, e2⟩ | ⟨e1, e2, e3, e4⟩ <;> rcases key i' x' hx' hb' with ⟨f1, f2⟩ | ⟨f1, f2, f3, f4⟩
    · rw [e1, f1]
    · omega
    · omega
    · exact h.inj i i' x x' b e2 f2 e3 f3
  · rcases lk_purge hd with ⟨rfl, d', hd'⟩ | ⟨hd', hm⟩
    · obtain ⟨v, hv, _⟩ := h.env s d' hd'
      exact ⟨v, hv, .ro (.any v)⟩
    · obtain ⟨v, hv, hr⟩ := h.env s d hd'
      exact ⟨v, hv, (hr.mono hw hF).upd hm⟩

#print axioms SatC.regrow
end Go.Abs
end
section
namespace Go.Abs
open Go.RowKit (Below)

/-! ### What follows from a reading -/
def wfS : D → Prop
  | .int k n => inR k n
  | .str s => s.length ≤ maxLen
  | .sl sz n cs | .slx sz n cs => n ≤ maxLen ∧ cs.length = n * sz
  | _ => True
/-- .. holds of each part. -/
def inside (Q : D → Prop) : D → Prop
  | .sl _ _ cs | .slx _ _ cs | .agg cs | .tup cs | .rop cs _ | .fn _ cs => ∀ c ∈ cs, Q c
  | _ => True
def wf1 (d : D) : Prop := wfS d ∧ inside wfS d
def wf2 (d : D) : Prop := wfS d ∧ inside wf1 d
def wf3 (d : D) : Prop := wfS d ∧ inside wf2 d

theorem wfS_of {w : World} {F : Nat → Prop} {v : Value} {d : D} (h : RepR w F v d) : wfS d := by
  cases h <;> simp only [wfS] <;> first | trivial | (constructor <;> assumption) | assumption | (refine ⟨?_, ?_⟩ <;> first | omega | simp [maxLen])

theorem lift_wf {w : World} {F : Nat → Prop} {Q : D → Prop} (hQ : ∀ v d, RepR w F v d → Q d) {v : Value} {d : D} (h : RepR w F v d) : inside Q d := by
  have arr : ∀ (vs : Array Value) (ds : List D), vs.size = ds.length → (∀ (i : Nat) (v : Value) (d : D), vs[i]? = some v → ds[i]? = some d → RepR w F v d) → ∀ c ∈ ds, Q c := by
    intro vs ds hl h c hc
    obtain ⟨i, hi, rfl⟩ := List.getElem_of_mem hc
    exact hQ vs[i] _ (h i _ _ (by simp [hl, hi]) (by simp [hi]))
  cases h with
  | any v => trivial
  | int a b => trivial
  | bool => trivial
  | str a b => trivial
  | nils => trivial
  | agg a b c => exact arr _ _ a c
  | tup a b => exact arr _ _ a b
  | sl0 => exact fun c hc => by simp at hc
  | sl g a b c d e f k => exact fun c hc => by obtain ⟨i, hi, rfl⟩ := List.getElem_of_mem hc; exact hQ _ _ (k i _ (by simp [hi]))
  | slx0 => exact fun c hc => by simp at hc
  | slx g a b c d e k => exact fun c hc => by obtain ⟨i, hi, rfl⟩ := List.getElem_of_mem hc; exact hQ _ _ (k i _ (by simp [hi]))
  | rop g a b k => exact fun c hc => by obtain ⟨i, hi, rfl⟩ := List.getElem_of_mem hc; exact hQ _ _ (k i _ (by simp [hi]))
  | fn a b => exact arr _ _ a b
  | yld => trivial
  | mpr => trivial
theorem wf1_of {w : World} {F : Nat → Prop} {v : Value} {d : D} (h : RepR w F v d) : wf1 d := ⟨wfS_of h, lift_wf (fun _ _ => wfS_of) h⟩
theorem wf2_of {w : World} {F : Nat → Prop} {v : Value} {d : D} (h : RepR w F v d) : wf2 d := ⟨wfS_of h, lift_wf (fun _ _ => wf1_of) h⟩
theorem wf3_of {w : World} {F : Nat → Prop} {v : Value} {d : D} (h : RepR w F v d) : wf3 d := ⟨wfS_of h, lift_wf (fun _ _ => wf2_of) h⟩

/-! ### Contracts -/
def FArgs (w : World) (F : Nat → Prop) (vs : List Value) (ds : List D) : Prop := vs.length = ds.length ∧ ∀ (i : Nat) (v : Value) (d : D), vs[i]? = some v → ds[i]? = some d → RepR w F v d
def Callable (P : Program) (f : FuncId) : Prop := ∃ fn : Func, P.funcs[f]? = some fn ∧ fn.body.isSome = true ∧ (fn.name == "runtime.NumGoroutine") = false

/-- Called with arguments that read as 'ds', function f returns what reads as 'd', and has turned nothing that was there. -/
def Fn (G : Glob) (P : Program) (f : FuncId) (ds : List D) (d : D) : Prop :=
  Callable P f ∧ ∀ (b0 : Bas) (vs : List Value), b0.G = G → (∀ b, ¬ b0.lent b) → FArgs b0.w (fun b => b0.base b ∧ b < b0.w.heap.size) vs ds →
    Calls P f vs.toArray b0.w fun e w' => ∃ v, e = .returned v ∧ RepR w' (fun b => b0.base b ∧ b < w'.heap.size) v d ∧ Below b0.w.heap.size b0.w w'

def OwnRow (B : Nat) (w : World) (F : Nat → Prop) (v : Value) (sz n : Nat) (cs : List D) : Prop :=
  cs.length = n * sz ∧ ((∃ p, v = .slice p 0 0 ∧ n = 0) ∨ ∃ b c arr T fz, v = .slice (some ⟨b, 0, none⟩) n c ∧ B ≤ b ∧ w.heap[b]? = some (.cells arr T fz) ∧ arr.size = c * sz ∧ n ≤ c ∧ c ≤ maxLen ∧
    (∀ o, o < arr.size → ¬ (fz.1 ≤ o ∧ o < fz.2)) ∧ ∀ (i : Nat) (v : Value) (d : D), arr[i]? = some v → cs[i]? = some d → RepR w (fun k => F k ∧ k ≠ b) v d ∧ v.oneCell' = true)

/-- .. what it returns is a slice in new memory, which the caller may append to. -/
def FnS (G : Glob) (P : Program) (f : FuncId) (ds : List D) (sz n : Nat) (cs : List D) : Prop :=
  Callable P f ∧ ∀ (b0 : Bas) (vs : List Value), b0.G = G → (∀ b, ¬ b0.lent b) → FArgs b0.w (fun b => b0.base b ∧ b < b0.w.heap.size) vs ds →
    Calls P f vs.toArray b0.w fun e w' => ∃ v, e = .returned v ∧ OwnRow b0.w.heap.size w' (fun b => b0.base b ∧ b < w'.heap.size) v sz n cs ∧ Below b0.w.heap.size b0.w w'

theorem OwnRow.rep {B : Nat} {w : World} {F : Nat → Prop} (hF : ∀ b, B ≤ b → b < w.heap.size → F b) {v : Value} {sz n : Nat} {cs : List D} (h : OwnRow B w F v sz n cs) : RepR w F v (.sl sz n cs) := by
  obtain ⟨hl, h | ⟨b, c, arr, T, fz, rfl, hB, hb, hs, hn, hc, _, hr⟩⟩ := h
  · obtain ⟨p, rfl, rfl⟩ := h
    have : cs = [] := List.eq_nil_of_length_eq_zero (by simpa using hl)
    subst this
    exact .sl0 (by simp [maxLen])
  · have hlt : ∀ j, j < n * sz → j < arr.size := fun j hj => by rw [hs]; exact Nat.lt_of_lt_of_le hj (Nat.mul_le_mul_right _ hn)
    have hbl : b < w.heap.size := (Array.getElem?_eq_some_iff.1 hb).1
    refine .sl (fun j => arr.getD j undef) rfl (hF b hB hbl) hn hc hl (fun j hj => ?_) (fun j d hd => ?_)
    · have h1 : arr[j]? = some (arr[j]'(hlt j hj)) := by simp [hlt j hj]
      obtain ⟨d, hd⟩ : ∃ d, cs[j]? = some d := ⟨cs[j]'(by omega), by simp⟩
      simp only [World.cell?, hb, Nat.zero_add, Option.isSome_none, Bool.false_eq_true, if_false, h1, Array.getD_eq_getD_getElem?, Option.getD_some, true_and]
      exact (hr j _ d h1 hd).2
    · have hj : j < n * sz := by have := (List.getElem?_eq_some_iff.1 hd).1; omega
      have h1 : arr[j]? = some (arr[j]'(hlt j hj)) := by simp [hlt j hj]
      simp only [Array.getD_eq_getD_getElem?, h1, Option.getD_some]
      exact (hr j _ d h1 hd).1.mono (fun _ _ => rfl) fun _ h => h.1

theorem FnS.fn {G : Glob} {P : Program} {f : FuncId} {ds : List D} {sz n : Nat} {cs : List D} (h : FnS G P f ds sz n cs) : Fn G P f ds (.sl sz n cs) :=
  ⟨h.1, fun b0 vs hG hL ha => (h.2 b0 vs hG hL ha).mono fun e w' ⟨v, he, ho, hb⟩ => ⟨v, he, ho.rep fun b h1 h2 => ⟨b0.new b h1, h2⟩, hb⟩⟩

/-! ### An own block, lent -/
/-- No own block is named. -/
def isP : D → Bool
  | .ptr _ _ | .osl _ _ _ | .osw _ _ _ _ | .oag _ | .ofn _ _ => false
  | _ => true
theorem Rep.pure {φ : Loc} {w : World} {F : Nat → Prop} {v : Value} {d : D} (h : Rep φ w F v d) (hp : isP d = true) : RepR w F v d := by
  cases h with
  | ro h => exact h
  | _ => simp [isP] at hp

/-- The blocks that a callee may read: the call's own ones too. -/
def FL (φ : Loc) (w : World) (b : Nat) : Prop := φ.base b ∧ b < w.heap.size
theorem FS_FL {φ : Loc} {own : List (Nat × List D)} {w : World} {b : Nat} (h : FSx φ own w b) : FL φ w b := ⟨h.3, h.1⟩
theorem own_FL {w0 : Bas} {w : World} {φ : Loc} {S : St} {tmps : Array Value} (hs : SatC w0 φ S tmps w) {id b : Nat} {c : List D} (hid : lk id S.own = some c) (hb : (φ id).1 = some b) : FL φ w b :=
  ⟨by rw [hs.base]; rcases (hs.own id c hid).2 b hb with h | h; exact w0.new _ h; exact (w0.lb _ h).1, (hs.own id c hid).1.lt hb⟩

def lkoW (id : Nat) : List (Nat × List D) → (List D → Prop) → Prop
  | [], _ => False
  | (s, d) :: r, k => if id = s then k d else lkoW id r k
theorem lkoW_cons (t s : Nat) (d : List D) (r : List (Nat × List D)) (k : List D → Prop) : lkoW t ((s, d) :: r) k = if t = s then k d else lkoW t r k := _root_.id rfl
theorem lkoW_ok {id : Nat} {own : List (Nat × List D)} {k : List D → Prop} (h : lkoW id own k) : ∃ c, lk id own = some c ∧ k c := by
  induction own with
  | nil => exact h.elim
  | cons p r ih =>
    obtain ⟨s, d⟩ := p
    rw [lkoW_cons] at h
    simp only [lk]
    split at h
    · rename_i e; exact ⟨d, by rw [if_pos e], h⟩
    · rename_i e; rw [if_neg e]; exact ih h

def allP (cs : List D) : Prop := ∀ c ∈ cs, isP c = true

/-- What a callee is handed, and whether an own block is lent with it. -/
def coeS (S : St) (d : D) (k : D → Bool → Prop) : Prop :=
  match d with
  | .ptr id off => lkoW id S.own fun c => allP c ∧ k (.rop c off) true
  | .osl id sz n => lkoW id S.own fun c => allP c ∧ c.length = n * sz ∧ k (.sl sz n c) true
  | .osw id off sz n => lkoW id S.own fun c => allP c ∧ off + n * sz ≤ c.length ∧ k (.sl sz n ((c.drop off).take (n * sz))) true
  | .oag _ | .ofn _ _ => False
  | d => k d false
def coeL (S : St) : List D → (List D → Bool → Prop) → Prop
  | [], k => k [] false
  | d :: r, k => coeS S d fun d' b => coeL S r fun r' b' => k (d' :: r') (b || b')
def coeW (S : St) (d : D) (k : D → Bool → Prop) : Prop :=
  match d with
  | .oag cs => coeL S cs fun cs' b => k (.agg cs') b
  | .ofn f cs => coeL S cs fun cs' b => k (.fn f cs') b
  | d => coeS S d k
def coeLW (S : St) : List D → (List D → Bool → Prop) → Prop
  | [], k => k [] false
  | d :: r, k => coeW S d fun d' b => coeLW S r fun r' b' => k (d' :: r') (b || b')

/-- The cells of an own block, as a reader sees them. -/
theorem own_cells {w0 : Bas} {w : World} {φ : Loc} {S : St} {tmps : Array Value} (hs : SatC w0 φ S tmps w) {id b : Nat} {c : List D} (hid : lk id S.own = some c) (hb : (φ id).1 = some b) :
    ∃ arr T fz, w.heap[b]? = some (.cells arr T fz) ∧ arr.size = (φ id).2 ∧ c.length ≤ arr.size ∧ (∀ o, o < arr.size → ¬ (fz.1 ≤ o ∧ o < fz.2)) ∧
      (∀ j, j < c.length → w.cell? ⟨b, j, none⟩ = some (arr.getD j undef)) ∧ ∀ (j : Nat) (d : D), c[j]? = some d → Rep φ w (FSx φ S.own w) (arr.getD j undef) d ∧ (arr.getD j undef).oneCell' = true := by
  have h := (hs.own id c hid).1
  unfold OwnOk at h
  rw [hb] at h
  obtain ⟨arr, T, fz, h1, h2, h3, h4, h5⟩ := h
  refine ⟨arr, T, fz, h1, h2, h4, h3, fun j hj => ?_, fun j d hd => ?_⟩
  · simp only [World.cell?, h1, Option.isSome_none, Bool.false_eq_true, if_false, Array.getD_eq_getD_getElem?]
    rw [show arr[j]? = some (arr[j]'(by omega)) by simp]
    simp
  · have hj : j < arr.size := by have := (List.getElem?_eq_some_iff.1 hd).1; omega
    have e : arr[j]? = some arr[j] := by simp [hj]
    simp only [Array.getD_eq_getD_getElem?, e, Option.getD_some]
    exact h5 j _ d e hd

/-- As a callee reads it. -/
def Lent (φ : Loc) (S : St) (w : World) (v : Value) (d : D) (b : Bool) : Prop := RepR w (FL φ w) v d ∧ (b = false → RepR w (FSx φ S.own w) v d)

theorem coeS_ok {w0 : Bas} {w : World} {φ : Loc} {S : St} {tmps : Array Value} (hs : SatC w0 φ S tmps w) {v : Value} {d : D} {k : D → Bool → Prop} (hr : Rep φ w (FSx φ S.own w) v d) (h : coeS S d k) :
    ∃ d' b, k d' b ∧ Lent φ S w v d' b := by
  cases d with
  | ptr id off =>
    obtain ⟨c, hc, hp, hk⟩ := lkoW_ok h
    cases hr with
    | ro hr => cases hr
    | ptr hb =>
      obtain ⟨arr, T, fz, h1, h2, h3, h4, h5, h6⟩ := own_cells hs hc hb
      refine ⟨_, _, hk, ?_, fun h => by cases h⟩
      have := RepR.rop (w := w) (F := FL φ w) (b := _) (base := 0) (off := off) (cs := c) (fun j => arr.getD j undef) (own_FL hs hc hb)
        (fun j hj => ⟨by rw [Nat.zero_add]; exact h5 j hj, by obtain ⟨d, hd⟩ : ∃ d, c[j]? = some d := ⟨c[j], by simp [hj]⟩; exact (h6 j d hd).2⟩)
        (fun j d hd => ((h6 j d hd).1.pure (hp d (List.mem_of_getElem? hd))).mono (fun _ _ => rfl) fun _ => FS_FL)
      simpa using this
  | osl id sz n =>
    obtain ⟨c, hc, hp, hl, hk⟩ := lkoW_ok h
    refine ⟨_, _, hk, ?_, fun h => by cases h⟩
    cases hr with
    | ro hr => cases hr
    | osl0 hb =>
      have : c = [] := List.eq_nil_of_length_eq_zero (by simpa using hl)
      subst this
      exact .sl0 (by simp [maxLen])
    | osl hb he hn hm =>
      obtain ⟨arr, T, fz, h1, h2, h3, h4, h5, h6⟩ := own_cells hs hc hb
      exact .sl (fun j => arr.getD j undef) rfl (own_FL hs hc hb) hn hm hl
        (fun j hj => ⟨by rw [Nat.zero_add]; exact h5 j (by omega), by obtain ⟨d, hd⟩ : ∃ d, c[j]? = some d := ⟨c[j]'(by omega), by simp⟩; exact (h6 j d hd).2⟩)
        (fun j d hd => ((h6 j d hd).1.pure (hp d (List.mem_of_getElem? hd))).mono (fun _ _ => rfl) fun _ => FS_FL)
  | osw id off sz n =>
    obtain ⟨c, hc, hp, hl, hk⟩ := lkoW_ok h
    refine ⟨_, _, hk, ?_, fun h => by cases h⟩
    cases hr with
    | ro hr => cases hr
    | osw0 hc => rw [Nat.zero_mul, List.take_zero]; exact .sl0 hc
    | osw hb hn hm hsz =>
      obtain ⟨arr, T, fz, h1, h2, h3, h4, h5, h6⟩ := own_cells hs hc hb
      refine .sl (fun j => arr.getD (off + j) undef) rfl (own_FL hs hc hb) hn hm (by simp; omega)
        (fun j hj => ⟨h5 (off + j) (by omega), by obtain ⟨d, hd⟩ : ∃ d, c[off + j]? = some d := ⟨c[off + j]'(by omega), by simp⟩; exact (h6 _ d hd).2⟩)
        (fun j d hd => ?_)
      simp only [List.getElem?_take, List.getElem?_drop] at hd
      split at hd
      · exact ((h6 _ d hd).1.pure (hp d (List.mem_of_getElem? hd))).mono (fun _ _ => rfl) fun _ => FS_FL
      · cases hd
  | oag cs => exact h.elim
  | ofn f cs => exact h.elim
  | _ => exact ⟨_, _, h, (hr.pure rfl).mono (fun _ _ => rfl) fun _ => FS_FL, fun _ => hr.pure rfl⟩

theorem coeL_ok {w0 : Bas} {w : World} {φ : Loc} {S : St} {tmps : Array Value} (hs : SatC w0 φ S tmps w) : ∀ {ds : List D} {vs : List Value} {k : List D → Bool → Prop}, vs.length = ds.length →
    (∀ (i : Nat) (v : Value) (d : D), vs[i]? = some v → ds[i]? = some d → Rep φ w (FSx φ S.own w) v d) → coeL S ds k → ∃ ds' b, k ds' b ∧ FArgs w (FL φ w) vs ds' ∧ (b = false → FArgs w (FSx φ S.own w) vs ds')
  | [], vs, k, hl, hr, h => by
    have : vs = [] := List.eq_nil_of_length_eq_zero (by simpa using hl)
    subst this
    exact ⟨[], false, h, ⟨rfl, fun i v d hv => by simp at hv⟩, fun _ => ⟨rfl, fun i v d hv => by simp at hv⟩⟩
  | d :: r, v :: vs, k, hl, hr, h => by
    obtain ⟨d', b, h1, hd, hd2⟩ := coeS_ok hs (hr 0 v d rfl rfl) h
    obtain ⟨r', b', h2, ⟨hl', hr'⟩, hr2⟩ := coeL_ok hs (vs := vs) (by simpa using hl) (fun i v d hv hd => hr (i + 1) v d (by simpa using hv) (by simpa using hd)) h1
    refine ⟨d' :: r', _, h2, ⟨by simp [hl'], fun i v2 d2 hv hd2 => ?_⟩, fun hb => ⟨by simp [hl'], fun i v2 d2 hv hd2' => ?_⟩⟩
    · cases i with
      | zero => simp at hv hd2; subst hv; subst hd2; exact hd
      | succ i => exact hr' i v2 d2 (by simpa using hv) (by simpa using hd2)
    · simp only [Bool.or_eq_false_iff] at hb
      cases i with
      | zero => simp at hv hd2'; subst hv; subst hd2'; exact hd2 hb.1
      | succ i => exact (hr2 hb.2).2 i v2 d2 (by simpa using hv) (by simpa using hd2')

theorem coeW_ok {w0 : Bas} {w : World} {φ : Loc} {S : St} {tmps : Array Value} (hs : SatC w0 φ S tmps w) {v : Value} {d : D} {k : D → Bool → Prop} (hr : Rep φ w (FSx φ S.own w) v d) (h : coeW S d k) :
    ∃ d' b, k d' b ∧ Lent φ S w v d' b := by
  cases d with
  | oag cs =>
    cases hr with
    | ro hr => cases hr
    | @oag vs _ a b c =>
      obtain ⟨ds', bb, hk, ⟨hl, hr⟩, hr2⟩ := coeL_ok hs (vs := vs.toList) (by simpa using a) (fun i v d hv hd => c i v d (by simpa using hv) hd) h
      exact ⟨_, _, hk, .agg (by simpa using hl) b fun i v d hv hd => hr i v d (by simpa using hv) hd, fun hb => .agg (by simpa using hl) b fun i v d hv hd => (hr2 hb).2 i v d (by simpa using hv) hd⟩
  | ofn f cs =>
    cases hr with
    | ro hr => cases hr
    | @ofn _ vs _ a c =>
      obtain ⟨ds', bb, hk, ⟨hl, hr⟩, hr2⟩ := coeL_ok hs (vs := vs.toList) (by simpa using a) (fun i v d hv hd => c i v d (by simpa using hv) hd) h
      exact ⟨_, _, hk, .fn (by simpa using hl) fun i v d hv hd => hr i v d (by simpa using hv) hd, fun hb => .fn (by simpa using hl) fun i v d hv hd => (hr2 hb).2 i v d (by simpa using hv) hd⟩
  | _ => exact coeS_ok hs hr h

theorem coeLW_ok {w0 : Bas} {w : World} {φ : Loc} {S : St} {tmps : Array Value} (hs : SatC w0 φ S tmps w) : ∀ {ds : List D} {vs : List Value} {k : List D → Bool → Prop}, vs.length = ds.length →
    (∀ (i : Nat) (v : Value) (d : D), vs[i]? = some v → ds[i]? = some d → Rep φ w (FSx φ S.own w) v d) → coeLW S ds k → ∃ ds' b, k ds' b ∧ FArgs w (FL φ w) vs ds' ∧ (b = false → FArgs w (FSx φ S.own w) vs ds')
  | [], vs, k, hl, hr, h => by
    have : vs = [] := List.eq_nil_of_length_eq_zero (by simpa using hl)
    subst this
    exact ⟨[], false, h, ⟨rfl, fun i v d hv => by simp at hv⟩, fun _ => ⟨rfl, fun i v d hv => by simp at hv⟩⟩
  | d :: r, v :: vs, k, hl, hr, h => by
    obtain ⟨d', b, h1, hd, hd2⟩ := coeW_ok hs (hr 0 v d rfl rfl) h
    obtain ⟨r', b', h2, ⟨hl', hr'⟩, hr2⟩ := coeLW_ok hs (vs := vs) (by simpa using hl) (fun i v d hv hd => hr (i + 1) v d (by simpa using hv) (by simpa using hd)) h1
    refine ⟨d' :: r', _, h2, ⟨by simp [hl'], fun i v2 d2 hv hd2 => ?_⟩, fun hb => ⟨by simp [hl'], fun i v2 d2 hv hd2' => ?_⟩⟩
    · cases i with
      | zero => simp at hv hd2; subst hv; subst hd2; exact hd
      | succ i => exact hr' i v2 d2 (by simpa using hv) (by simpa using hd2)
    · simp only [Bool.or_eq_false_iff] at hb
      cases i with
      | zero => simp at hv hd2'; subst hv; subst hd2'; exact hd2 hb.1
      | succ i => exact (hr2 hb.2).2 i v2 d2 (by simpa using hv) (by simpa using hd2')

#print axioms coeLW_ok
end Go.Abs
end
section
namespace Go.Abs
open Go.RowKit (Below)

/-! ### Reading a list of cells -/
def nthW (cs : List D) (i : Nat) (k : D → Prop) : Prop := ∃ h : i < cs.length, k cs[i]
theorem nthW_cons (d : D) (r : List D) (i : Nat) (k : D → Prop) : nthW (d :: r) i k = if i = 0 then k d else nthW r (i - 1) k := by
  unfold nthW
  cases i with
  | zero => simp
  | succ i => simp
theorem nthW_map {α : Type} (f : α → D) (xs : List α) (i : Nat) (k : D → Prop) : nthW (xs.map f) i k = ∃ h : i < xs.length, k (f xs[i]) := by
  unfold nthW; simp
theorem nthW_ok {cs : List D} {i : Nat} {k : D → Prop} (h : nthW cs i k) : ∃ d, cs[i]? = some d ∧ k d := ⟨_, by simp [h.1], h.2⟩

def rdW (ag : Bool) (sz : Nat) (cs : List D) (off : Nat) (mk : List D → D) (k : D → Prop) : Prop :=
  match ag with
  | true => off + sz ≤ cs.length ∧ k (mk ((cs.drop off).take sz))
  | false => nthW cs off k
def loadW (S : St) (p : D) (ag : Bool) (sz : Nat) (k : D → Prop) : Prop :=
  match p with
  | .rop cs off => rdW ag sz cs off .agg k
  | .ptr id off => lkoW id S.own fun c => rdW ag sz c off .oag k
  | _ => False
theorem loadW_rop (S : St) (cs : List D) (off : Nat) (ag : Bool) (sz : Nat) (k : D → Prop) : loadW S (.rop cs off) ag sz k = rdW ag sz cs off .agg k := _root_.id rfl
theorem loadW_ptr (n nx : Nat) (env : List (Nat × D)) (own : List (Nat × List D)) (id off : Nat) (ag : Bool) (sz : Nat) (k : D → Prop) : loadW ⟨n, nx, env, own⟩ (.ptr id off) ag sz k = lkoW id own fun c => rdW ag sz c off .oag k := _root_.id rfl

theorem addr_add (b o n : Nat) : (⟨b, o, none⟩ : Addr).add n = ⟨b, o + n, none⟩ := by unfold Addr.add; split <;> simp_all
theorem addr_add' {a : Addr} (h : a.spot = none) (n : Nat) : a.add n = ⟨a.block, a.off + n, none⟩ := by
  obtain ⟨b, o, s⟩ := a; simp only at h; subst h; exact addr_add b o n

theorem run_load_cell {P : Program} {w : World} {a : Addr} {v : Value} (h : w.cell? a = some v) : (load a).run P w = .ok v w := by
  rw [run_load, h]

/-- A variable of one cell, of several: as the machine loads it. -/
theorem run_loadVar {P : Program} {w : World} {t : TypeId} {i : TypeInfo} {ag : Bool} {b o : Nat} (hag : isAg (tyOf P t) = some ag) (hi : P.info? t = some i) (f : Nat → Value)
    (h : ∀ j, j < (if ag = true then i.size else 1) → w.cell? ⟨b, o + j, none⟩ = some (f j)) :
    (loadVar t ⟨b, o, none⟩).run P w = .ok (if ag = true then .agg ((List.range i.size).map f).toArray else f 0) w := by
  unfold loadVar
  rw [Sem.run_bind, run_isAgg hag, Result.andThen_ok]
  cases ag with
  | true =>
    have hl := run_loadCells (P := P) w ⟨b, o, none⟩ i.size f (fun j hj => by rw [addr_add]; exact h j (by simpa using hj))
    simp [sizeOf, typeInfo, hi, hl]
  | false => simpa using run_load_cell (h 0 (by simp))

theorem loadW_ok {P : Program} {w0 : Bas} {w : World} {φ : Loc} {S : St} {tmps : Array Value} (hs : SatC w0 φ S tmps w) {p : Value} {d : D} {ag : Bool} {t : TypeId} {i : TypeInfo} {k : D → Prop} (hr : Rep φ w (FSx φ S.own w) p d)
    (hag : isAg (tyOf P t) = some ag) (hi : P.info? t = some i) (h : loadW S d ag i.size k) : ∃ v d', (Instr.loadAt t p).run P w = .ok v w ∧ k d' ∧ Rep φ w (FSx φ S.own w) v d' := by
  have core : ∀ (b o off : Nat) (cs : List D) (mk : List D → D) (g : Nat → Value), (∀ j, j < cs.length → w.cell? ⟨b, o + j, none⟩ = some (g j) ∧ (g j).oneCell' = true) →
      (∀ (j : Nat) (d : D), cs[j]? = some d → Rep φ w (FSx φ S.own w) (g j) d) →
      (∀ (vs : Array Value) (ds : List D), vs.size = ds.length → (∀ (i : Nat) (v : Value), vs[i]? = some v → v.oneCell' = true) → (∀ (j : Nat) (v : Value) (d : D), vs[j]? = some v → ds[j]? = some d → ∃ j', v = g j' ∧ cs[j']? = some d) → Rep φ w (FSx φ S.own w) (.agg vs) (mk ds)) →
      rdW ag i.size cs off mk k → ∃ v d', (loadVar t ⟨b, o + off, none⟩).run P w = .ok v w ∧ k d' ∧ Rep φ w (FSx φ S.own w) v d' := by
    intro b o off cs mk g hc hd hmk h
    cases ag with
    | true =>
      obtain ⟨hl, hk⟩ := h
      have hrun := run_loadVar (P := P) (w := w) (b := b) (o := o + off) hag hi (fun j => g (off + j)) (fun j hj => by
        have := (hc (off + j) (by simp at hj; omega)).1
        rwa [show o + (off + j) = o + off + j by omega] at this)
      refine ⟨_, _, hrun, hk, ?_⟩
      simp only [if_true]
      refine hmk _ _ (by simp; omega) (fun j v hv => ?_) (fun j v d hv hd' => ?_)
      · simp only [List.getElem?_toArray, List.getElem?_map] at hv
        by_cases hj : j < i.size
        · simp [hj] at hv; subst hv; exact (hc _ (by omega)).2
        · simp [hj] at hv
      · simp only [List.getElem?_toArray, List.getElem?_map] at hv
        by_cases hj : j < i.size
        · simp [hj] at hv
          simp only [List.getElem?_take, hj, if_true, List.getElem?_drop] at hd'
          exact ⟨off + j, hv.symm, hd'⟩
        · simp [hj] at hv
    | false =>
      obtain ⟨d', hd', hk⟩ := nthW_ok h
      have hlt : off < cs.length := (List.getElem?_eq_some_iff.1 hd').1
      have hrun := run_loadVar (P := P) (w := w) (b := b) (o := o + off) hag hi (fun j => g (off + j)) (fun j hj => by
        have e : j = 0 := by simp at hj; omega
        subst e
        have := (hc off hlt).1
        simpa using this)
      exact ⟨_, d', hrun, hk, by simpa using hd off d' hd'⟩
  unfold Instr.loadAt
  cases d with
  | rop cs off =>
    cases hr with
    | ro hr =>
      cases hr with
      | @rop b base _ _ g hb hc hd =>
        have := core b base off cs .agg g hc (fun j d h => .ro (hd j d h)) (fun vs ds h1 h2 h3 => .ro (.agg h1 h2 fun j v d hv hdd => by obtain ⟨j', rfl, hj'⟩ := h3 j v d hv hdd; exact hd j' d hj')) h
        simpa [Instr.sureAddr] using this
  | ptr id off =>
    obtain ⟨c, hc, h⟩ := lkoW_ok h
    cases hr with
    | ro hr => cases hr
    | @ptr _ _ b hb =>
      obtain ⟨arr, T, fz, h1, h2, h3, h4, h5, h6⟩ := own_cells hs hc hb
      have := core b 0 off c .oag (fun j => arr.getD j undef) (fun j hj => ⟨by rw [Nat.zero_add]; exact h5 j hj, by obtain ⟨d, hd⟩ : ∃ d, c[j]? = some d := ⟨c[j], by simp [hj]⟩; exact (h6 j d hd).2⟩)
        (fun j d hd => (h6 j d hd).1) (fun vs ds h1 h2 h3 => .oag h1 h2 fun j v d hv hdd => by obtain ⟨j', rfl, hj'⟩ := h3 j v d hv hdd; exact (h6 j' d hj').1) h
      simpa [Instr.sureAddr] using this
  | _ => exact h.elim

/-! ### Writing cells -/
theorem setCells_heap_other (b : Nat) : ∀ (vs : List Value) (o : Nat) (w : World) (k : Nat), k ≠ b → (w.setCells b o vs).heap[k]? = w.heap[k]?
  | [], _, _, _, _ => rfl
  | v :: r, o, w, k, h => by rw [World.setCells, setCells_heap_other b r (o + 1) _ k h]; exact Below.heap_setCell w ⟨b, o, none⟩ v k h
theorem setCells_size (b : Nat) : ∀ (vs : List Value) (o : Nat) (w : World), (w.setCells b o vs).heap.size = w.heap.size
  | [], _, _ => rfl
  | v :: r, o, w => by rw [World.setCells, setCells_size b r]; exact World.size_setCell _ _ _
theorem setCells_os (b : Nat) : ∀ (vs : List Value) (o : Nat) (w : World), (w.setCells b o vs).os = w.os ∧ (w.setCells b o vs).tape = w.tape ∧ (w.setCells b o vs).output = w.output
  | [], _, _ => ⟨rfl, rfl, rfl⟩
  | v :: r, o, w => by rw [World.setCells]; have := setCells_os b r (o + 1) (w.setCell ⟨b, o, none⟩ v); exact this

/-- The array with a stretch of it overwritten. -/
def setArr (arr : Array Value) (o : Nat) : List Value → Array Value
  | [] => arr
  | v :: r => setArr (arr.setIfInBounds o v) (o + 1) r
theorem setArr_size : ∀ (vs : List Value) (o : Nat) (arr : Array Value), (setArr arr o vs).size = arr.size
  | [], _, _ => rfl
  | v :: r, o, arr => by rw [setArr, setArr_size r]; simp
theorem setArr_get : ∀ (vs : List Value) (o : Nat) (arr : Array Value) (j : Nat), o + vs.length ≤ arr.size → (setArr arr o vs)[j]? = if o ≤ j ∧ j < o + vs.length then vs[j - o]? else arr[j]?
  | [], o, arr, j, h => by simp [setArr]; intro h1 h2; omega
  | v :: r, o, arr, j, h => by
    rw [setArr, setArr_get r (o + 1) _ j (by simp at h ⊢; omega)]
    simp only [List.length_cons] at h ⊢
    by_cases h1 : j = o
    · subst h1
      have h2 : ¬ (j + 1 ≤ j ∧ j < j + 1 + r.length) := by omega
      rw [if_neg h2, if_pos (by omega), Array.getElem?_setIfInBounds_self_of_lt (by omega)]
      simp
    · by_cases h2 : o + 1 ≤ j ∧ j < o + 1 + r.length
      · rw [if_pos h2, if_pos (by omega), show j - o = j - (o + 1) + 1 by omega]
        simp
      · rw [if_neg h2, if_neg (by omega), Array.getElem?_setIfInBounds_ne (by omega)]
theorem setCells_heap_same (b : Nat) : ∀ (vs : List Value) (o : Nat) (w : World) (arr : Array Value) (T : TypeId) (fz : Nat × Nat), w.heap[b]? = some (.cells arr T fz) → (w.setCells b o vs).heap[b]? = some (.cells (setArr arr o vs) T fz)
  | [], _, _, _, _, _, h => h
  | v :: r, o, w, arr, T, fz, h => by
    rw [World.setCells, setArr]
    refine setCells_heap_same b r (o + 1) _ _ T fz ?_
    simp only [World.setCell, Array.getElem?_modify, h]
    simp

/-- The list of data with a stretch of it overwritten. -/
def splD (c : List D) (off : Nat) (ds : List D) : List D := c.take off ++ ds ++ c.drop (off + ds.length)
theorem splD_length {c : List D} {off : Nat} {ds : List D} (h : off + ds.length ≤ c.length) : (splD c off ds).length = c.length := by simp [splD]; omega
theorem splD_get {c : List D} {off : Nat} {ds : List D} (h : off + ds.length ≤ c.length) (j : Nat) : (splD c off ds)[j]? = if off ≤ j ∧ j < off + ds.length then ds[j - off]? else c[j]? := by
  unfold splD
  simp only [List.append_assoc, List.getElem?_append, List.length_take, List.getElem?_take, List.getElem?_drop]
  have hm : min off c.length = off := by omega
  rw [hm]
  by_cases h1 : j < off
  · rw [if_pos h1, if_pos h1, if_neg (by omega)]
  · rw [if_neg h1]
    by_cases h2 : j - off < ds.length
    · rw [if_pos h2, if_pos (by omega)]
    · rw [if_neg h2, if_neg (by omega)]
      congr 1
      omega

/-- Cells of an own block are written. -/
theorem SatC.store {P : Program} {w0 : Bas} {w : World} {φ : Loc} {S : St} {tmps : Array Value} (hs : SatC w0 φ S tmps w) {id b off : Nat} {c ds : List D} {vs : List Value} (hid : lk id S.own = some c) (hb : (φ id).1 = some b)
    (hlen : vs.length = ds.length) (hfit : off + ds.length ≤ c.length) (hr : ∀ (i : Nat) (v : Value) (d : D), vs[i]? = some v → ds[i]? = some d → Rep φ w (FSx φ S.own w) v d ∧ v.oneCell' = true) :
    ∃ w', (storeCells ⟨b, off, none⟩ vs).run P w = .ok () w' ∧ SatC w0 φ ⟨S.n, S.nx, S.env, setO id (splD c off ds) S.own⟩ tmps w' ∧ ∀ v d, Rep φ w (FSx φ S.own w) v d → Rep φ w' (FSx φ (setO id (splD c off ds) S.own) w') v d := by
  have h0 := (hs.own id c hid).1
  unfold OwnOk at h0
  rw [hb] at h0
  obtain ⟨arr, T, fz, h1, h2, h3, h4, h5⟩ := h0
  have h1v : ∀ v ∈ vs, v.oneCell' = true := fun v hv => by
    obtain ⟨i, hi, rfl⟩ := List.getElem_of_mem hv
    exact (hr i vs[i] (ds[i]'(by omega)) (by simp [hi]) (by simp)).2
  have hrun := run_storeCells_cells (P := P) b off vs 0 w (fun j hj => by simp only [World.cell?, h1]; simp; omega) (fun j hj => by
      simp only [World.frozen?, h1, Nat.add_zero]
      have := h3 (off + j) (by omega)
      simp only [Bool.and_eq_false_iff, decide_eq_false_iff_not]
      omega) h1v
  simp only [Nat.add_zero] at hrun
  refine ⟨_, hrun, ?_, ?_⟩
  · refine hs.mod (arr := setArr arr off vs) (T := T) (fz := fz) hid hb (setCells_os b vs off w).1 (setCells_os b vs off w).2.1 (setCells_os b vs off w).2.2 (setCells_size b vs off w)
      (fun k hk => setCells_heap_other b vs off w k hk) (setCells_heap_same b vs off w arr T fz h1) (by rw [setArr_size, h2]) (fun o ho => h3 o (by rwa [setArr_size] at ho)) (by rw [splD_length hfit, setArr_size]; exact h4) ?_
    intro i v d hv hd
    rw [setArr_get vs off arr i (by omega)] at hv
    rw [splD_get hfit] at hd
    rw [hlen] at hv
    split at hv
    · rename_i e; rw [if_pos e] at hd; exact hr _ v d hv hd
    · rename_i e; rw [if_neg e] at hd; exact h5 i v d hv hd
  · intro v d h
    refine h.mono (fun k hk => setCells_heap_other b vs off w k fun e => hk.2 id c hid (by rw [hb, e])) (fun k hk => FS_setO hid (by rw [setCells_size]; exact Nat.le_refl _) hk)

#print axioms SatC.store
end Go.Abs
end
section
namespace Go.Abs
open Go.RowKit (Below)

theorem SatC.purge {w0 : Bas} {w : World} {φ : Loc} {S : St} {tmps : Array Value} (h : SatC w0 φ S tmps w) (id : Nat) : SatC w0 φ { S with env := Abs.purge id S.env } tmps w := by
  refine ⟨h.below, h.size, h.own, h.inj, fun s d hd => ?_, h.base, h.pin⟩
  rcases lk_purge hd with ⟨rfl, d', hd'⟩ | ⟨hd', hm⟩
  · obtain ⟨v, hv, _⟩ := h.env s d' hd'
    exact ⟨v, hv, .ro (.any v)⟩
  · exact h.env s d hd'

/-- An own block that is none yet. -/
theorem SatC.virt {w0 : Bas} {w : World} {φ : Loc} {S : St} {tmps : Array Value} (h : SatC w0 φ S tmps w) (hnm : NM S.nx S.own) :
    SatC w0 (Abs.upd φ S.nx (none, 0)) ⟨S.n, S.nx + 1, Abs.purge S.nx S.env, (S.nx, []) :: S.own⟩ tmps w := by
  have hF : ∀ b, FSx φ S.own w b → FSx (Abs.upd φ S.nx (none, 0)) ((S.nx, []) :: S.own) w b := fun b hb => by
    refine ⟨hb.1, fun i c hc => ?_, hb.3⟩
    simp only [lk] at hc
    split at hc
    · rename_i e; subst e; rw [upd_same]; simp
    · rename_i e; rw [upd_other _ _ e]; exact hb.2 i c hc
  refine ⟨h.below, h.size, fun id c hc => ?_, fun id id' c c' b hc hc' hb hb' => ?_, fun s d hd => ?_, h.base, fun i hi => by rw [upd_other _ _ (by have := hnm.lt; omega)]; exact h.pin i hi⟩
  · simp only [lk] at hc
    split at hc
    · rename_i e; cases hc; subst e
      exact ⟨by unfold OwnOk; rw [upd_same]; exact ⟨fun i d hd => by simp at hd, rfl⟩, fun b hb => by rw [upd_same] at hb; cases hb⟩
    · rename_i e
      obtain ⟨h1, h2⟩ := h.own id c hc
      refine ⟨?_, fun b hb => h2 b (by rwa [upd_other _ _ e] at hb)⟩
      unfold OwnOk at h1 ⊢
      rw [upd_other _ _ e]
      split
      · rename_i e1; rw [e1] at h1; exact ⟨fun i d hd => by obtain ⟨v, a1, a2⟩ := h1.1 i d hd; exact ⟨v, a1, (a2.mono (fun _ _ => rfl) hF).upd (hnm.nm id c hc e d (List.mem_of_getElem? hd))⟩, h1.2⟩
      · rename_i b e1
        rw [e1] at h1
        obtain ⟨arr', T', fz', k1, k2, k3, k4, k5⟩ := h1
        exact ⟨arr', T', fz', k1, k2, k3, k4, fun i v d hv hd => ⟨((k5 i v d hv hd).1.mono (fun _ _ => rfl) hF).upd (hnm.nm id c hc e d (List.mem_of_getElem? hd)), (k5 i v d hv hd).2⟩⟩
  · have key : ∀ i c'', lk i ((S.nx, ([] : List D)) :: S.own) = some c'' → (Abs.upd φ S.nx (none, 0) i).1 = some b → lk i S.own = some c'' ∧ (φ i).1 = some b := by
      intro i c'' hi hbi
      simp only [lk] at hi
      split at hi
      · rename_i e; subst e; rw [upd_same] at hbi; cases hbi
      · rename_i e; rw [upd_other _ _ e] at hbi; exact ⟨hi, hbi⟩
    exact h.inj id id' c c' b (key id c hc hb).1 (key id' c' hc' hb').1 (key id c hc hb).2 (key id' c' hc' hb').2
  · rcases lk_purge hd with ⟨rfl, d', hd'⟩ | ⟨hd', hm⟩
    · obtain ⟨v, hv, _⟩ := h.env s d' hd'
      exact ⟨v, hv, .ro (.any v)⟩
    · obtain ⟨v, hv, hr⟩ := h.env s d hd'
      exact ⟨v, hv, (hr.mono (fun _ _ => rfl) hF).upd hm⟩

/-! ### What an append, a copy takes its cells from -/
def srcW (S : St) (sz : Nat) (d : D) (k : Nat → List D → Prop) : Prop :=
  match d with
  | .str s => sz = 1 ∧ k s.length (s.map bD)
  | .nils => k 0 []
  | .sl sz' n cs | .slx sz' n cs => sz' = sz ∧ k n cs
  | .osl id sz' n => lkoW id S.own fun c => sz' = sz ∧ allP c ∧ c.length = n * sz ∧ k n c
  | .osw id off sz' n => lkoW id S.own fun c => sz' = sz ∧ allP c ∧ off + n * sz ≤ c.length ∧ k n ((c.drop off).take (n * sz))
  | _ => False

structure Src (P : Program) (w : World) (F : Nat → Prop) (sz : Nat) (x : Value) (n : Nat) (cs : List D) (vs : List Value) : Prop where
  len : ∀ w', (Builtin.lenOf x).run P w' = .ok n w'
  cells : ∀ m, m ≤ n → ∀ w', (∀ b, b < w.heap.size → w'.heap[b]? = w.heap[b]?) → (Builtin.firstCells sz m x).run P w' = .ok (vs.take (m * sz)).toArray w'
  lv : vs.length = n * sz
  lc : cs.length = n * sz
  rep : ∀ (i : Nat) (v : Value) (d : D), vs[i]? = some v → cs[i]? = some d → RepR w F v d ∧ v.oneCell' = true

theorem src_slice {P : Program} {w : World} {F : Nat → Prop} (hF : ∀ b, F b → b < w.heap.size) {a : Addr} {sz n c : Nat} {cs : List D} (g : Nat → Value) (hsp : a.spot = none) (hb : F a.block) (hl : cs.length = n * sz)
    (hc : ∀ (j : Nat), j < n * sz → w.cell? ⟨a.block, a.off + j, none⟩ = some (g j) ∧ (g j).oneCell' = true) (hd : ∀ (j : Nat) (d : D), cs[j]? = some d → RepR w F (g j) d) :
    Src P w F sz (.slice (some a) n c) n cs ((List.range (n * sz)).map g) := by
  refine ⟨fun w' => rfl, fun m hm w' hw' => ?_, by simp, hl, fun i v d hv hdd => ?_⟩
  · have hle : m * sz ≤ n * sz := Nat.mul_le_mul_right _ hm
    have := run_loadCells (P := P) w' a (m * sz) g (fun j hj => by
      rw [addr_add' hsp, World.cell?_of_block (w := w) (a := ⟨a.block, a.off + j, none⟩) (hw' _ (hF _ hb))]; exact (hc j (by omega)).1)
    simp only [Builtin.firstCells, this]
    congr 2
    rw [← List.map_take, List.take_range, Nat.min_eq_left hle]
  · simp only [List.getElem?_map] at hv
    by_cases hi : i < n * sz
    · simp [hi] at hv; subst hv; exact ⟨hd i d hdd, (hc i hi).2⟩
    · simp [hi] at hv

theorem src_empty {P : Program} {w : World} {F : Nat → Prop} (p : Option Addr) (sz c : Nat) : Src P w F sz (.slice p 0 c) 0 [] [] := by
  refine ⟨fun w' => rfl, fun m hm w' hw' => ?_, by simp, by simp, fun i v d hv => by simp at hv⟩
  obtain rfl : m = 0 := by omega
  cases p with
  | none => simp [Builtin.firstCells]
  | some a =>
    have := run_loadCells (P := P) w' a 0 (fun _ => undef) (fun j hj => by omega)
    simpa [Builtin.firstCells] using this

theorem srcW_ok {P : Program} {w0 : Bas} {w : World} {φ : Loc} {S : St} {tmps : Array Value} (hs : SatC w0 φ S tmps w) {x : Value} {d : D} {sz : Nat} {k : Nat → List D → Prop} (hr : Rep φ w (FSx φ S.own w) x d) (h : srcW S sz d k) :
    ∃ n cs vs, k n cs ∧ Src P w (FSx φ S.own w) sz x n cs vs := by
  have hF : ∀ b, FSx φ S.own w b → b < w.heap.size := fun b hb => hb.1
  cases d with
  | str s =>
    obtain ⟨rfl, hk⟩ := h
    obtain ⟨b, rfl, hb, hl⟩ := hr.str_inv
    refine ⟨_, _, s.map (fun b => Value.int .u8 b.toNat), hk, ?_, ?_, by simp, by simp, ?_⟩
    · intro w'; simp [Builtin.lenOf, ba_size, hb]
    · intro m hm w' _
      simp only [Builtin.firstCells, Sem.run_pure, Nat.mul_one]
      congr 1
      apply Array.ext'
      subst hb
      simp [List.map_take]
    · intro i v d hv hd
      simp only [List.getElem?_map] at hv hd
      cases hi : s[i]? with
      | none => simp [hi] at hv
      | some c =>
        simp [hi] at hv hd
        subst hv; subst hd
        have := c.toNat_lt
        exact ⟨.int (by show (0 : Int) ≤ _; omega) (by show _ ≤ (255 : Int); omega), rfl⟩
  | nils =>
    cases hr with
    | ro hr => cases hr; exact ⟨0, [], [], h, src_empty none sz 0⟩
  | sl sz' n cs =>
    obtain ⟨rfl, hk⟩ := h
    cases hr with
    | ro hr =>
      cases hr with
      | sl0 hc => exact ⟨_, _, _, hk, src_empty _ _ _⟩
      | sl g a b c d e f i => exact ⟨_, _, _, hk, src_slice hF g a b e f i⟩
  | slx sz' n cs =>
    obtain ⟨rfl, hk⟩ := h
    cases hr with
    | ro hr =>
      cases hr with
      | slx0 => exact ⟨_, _, _, hk, src_empty _ _ _⟩
      | slx g a b c d e f => exact ⟨_, _, _, hk, src_slice hF g a b d e f⟩
  | osl id sz' n =>
    obtain ⟨c, hc, rfl, hp, hl, hk⟩ := lkoW_ok h
    cases hr with
    | ro hr => cases hr
    | osl0 hb =>
      have : c = [] := List.eq_nil_of_length_eq_zero (by simpa using hl)
      subst this
      exact ⟨_, _, _, hk, src_empty _ _ _⟩
    | @osl _ _ _ c' b hb he hn hm =>
      obtain ⟨arr, T, fz, h1, h2, h3, h4, h5, h6⟩ := own_cells hs hc hb
      have hbl := (hs.own id c hc).1.lt hb
      refine ⟨_, _, (List.range (n * sz')).map (fun j => arr.getD j undef), hk, ⟨fun w' => rfl, fun m hm w' hw' => ?_, by simp, hl, fun i v d hv hdd => ?_⟩⟩
      · have hle : m * sz' ≤ n * sz' := Nat.mul_le_mul_right _ hm
        have := run_loadCells (P := P) w' ⟨b, 0, none⟩ (m * sz') (fun j => arr.getD j undef) (fun j hj => by
          rw [addr_add, World.cell?_of_block (w := w) (hw' _ hbl), Nat.zero_add]; exact h5 j (by omega))
        simp only [Builtin.firstCells, this]
        congr 2
        rw [← List.map_take, List.take_range, Nat.min_eq_left hle]
      · simp only [List.getElem?_map] at hv
        by_cases hi : i < n * sz'
        · simp only [hi, List.getElem?_range, Option.map_some, Option.some.injEq] at hv
          subst hv; exact ⟨(h6 i d hdd).1.pure (hp d (List.mem_of_getElem? hdd)), (h6 i d hdd).2⟩
        · simp [hi] at hv
  | osw id off sz' n =>
    obtain ⟨c, hc, rfl, hp, hl, hk⟩ := lkoW_ok h
    cases hr with
    | ro hr => cases hr
    | osw0 hc => rw [Nat.zero_mul, List.take_zero] at hk; exact ⟨_, _, _, hk, src_empty _ _ _⟩
    | @osw _ _ _ _ c' b hb hn hm hsz =>
      obtain ⟨arr, T, fz, h1, h2, h3, h4, h5, h6⟩ := own_cells hs hc hb
      have hbl := (hs.own id c hc).1.lt hb
      refine ⟨_, _, (List.range (n * sz')).map (fun j => arr.getD (off + j) undef), hk, ⟨fun w' => rfl, fun m hm w' hw' => ?_, by simp, by simp; omega, fun i v d hv hdd => ?_⟩⟩
      · have hle : m * sz' ≤ n * sz' := Nat.mul_le_mul_right _ hm
        have := run_loadCells (P := P) w' ⟨b, off, none⟩ (m * sz') (fun j => arr.getD (off + j) undef) (fun j hj => by
          rw [addr_add, World.cell?_of_block (w := w) (hw' _ hbl)]; exact h5 _ (by omega))
        simp only [Builtin.firstCells, this]
        congr 2
        rw [← List.map_take, List.take_range, Nat.min_eq_left hle]
      · simp only [List.getElem?_map] at hv
        by_cases hi : i < n * sz'
        · simp only [hi, List.getElem?_range, Option.map_some, Option.some.injEq] at hv
          simp only [List.getElem?_take, hi, if_true, List.getElem?_drop] at hdd
          subst hv; exact ⟨(h6 _ d hdd).1.pure (hp d (List.mem_of_getElem? hdd)), (h6 _ d hdd).2⟩
        · simp [hi] at hv
  | _ => exact h.elim

/-! ### append, as the machine runs it -/
section
variable {P : Program} {w : World} {sT xT ty e : TypeId} {i : TypeInfo} {z : Value} {u : TypeDesc} {x : Value} {p : Option Addr} {n c m : Nat}

theorem run_append_fits (ht : P.underlying sT = some (.slice e)) (hi : P.info? e = some i) (hx : P.underlying xT = some u) (hu : ∀ k, u ≠ .int k) {vs : List Value} (hl : ∀ w', (Builtin.lenOf x).run P w' = .ok m w')
    (hv : (Builtin.firstCells i.size m x).run P w = .ok vs.toArray w) (hfit : n + m ≤ c) {w' : World} (hst : ∀ a, p = some a → (storeCells (a.add (n * i.size)) vs).run P w = .ok () w') (hno : p = none → w' = w) :
    (Builtin.append_ #[sT, xT] ty #[.slice p n c, x]).run P w = .ok (.slice p (n + m) c) w' := by
  have hint : (match u with | .int _ => true | _ => false) = false := by
    cases u <;> first | rfl | (rename_i k; exact (hu k rfl).elim)
  cases p with
  | none =>
    cases hno rfl
    simp [Builtin.append_, run_underlying ht, run_underlying hx, hint, sizeOf, typeInfo, hi, hl, hv, hfit]
  | some a =>
    have h1 := hst a rfl
    simp [Builtin.append_, run_underlying ht, run_underlying hx, hint, sizeOf, typeInfo, hi, hl, hv, hfit, h1]

theorem run_append_grows (ht : P.underlying sT = some (.slice e)) (hi : P.info? e = some i) (hz : i.zero = some z) (hx : P.underlying xT = some u) (hu : ∀ k, u ≠ .int k) {os vs : List Value}
    (hl : ∀ w', (Builtin.lenOf x).run P w' = .ok m w') (hv : (Builtin.firstCells i.size m x).run P w.drew = .ok vs.toArray w.drew) (ho : (Builtin.firstCells i.size n (.slice p n c)).run P w.drew = .ok os.toArray w.drew)
    (hg : c < n + m) (hby : (n + m) * i.bytes ≤ 140737488355328) (h63 : n + m ≤ maxLen) :
    (Builtin.append_ #[sT, xT] ty #[.slice p n c, x]).run P w = .ok (.slice (some ⟨w.heap.size, 0, none⟩) (n + m) (grownCap w (n + m) c e))
      (w.drew.alloc (.cells (os.toArray ++ vs.toArray ++ Builtin.zeroCells z.cells (grownCap w (n + m) c e - (n + m))) e)) := by
  have hint : (match u with | .int _ => true | _ => false) = false := by
    cases u <;> first | rfl | (rename_i k; exact (hu k rfl).elim)
  have hn : ¬ (n + m ≤ c) := by omega
  have h63' : ¬ (9223372036854775807 < ((n : Int) + (m : Int))) := by simp only [maxLen] at h63; omega
  have hf := growslice_fits hg hby
  have h48' : ¬ (281474976710656 < Builtin.nextslicecap (n + m) c * i.bytes) := by omega
  simp [Builtin.append_, run_underlying ht, run_underlying hx, hint, sizeOf, typeInfo, zeroValue, hi, hz, hl, hn, h63', h48', Question.forced, hv, ho, newRow, grownCap]
  congr 2
  apply Array.ext'
  simp
end

/-! ### append, on data -/
def nmC (id : Nat) (cs : List D) : Prop := ∀ d ∈ cs, mn id d = false
def nmW (id : Nat) : List (Nat × List D) → Prop → Prop
  | [], A => id < pinB ∧ A
  | (_, c) :: r, A => nmC id c ∧ nmW id r A
theorem nmW_ok' {id : Nat} : ∀ {own : List (Nat × List D)} {A : Prop}, nmW id own A → (∀ i c, lk i own = some c → ∀ d ∈ c, mn id d = false) ∧ id < pinB ∧ A
  | [], A, h => ⟨fun i c hc => by simp [lk] at hc, h⟩
  | (j, x) :: r, A, h => by
    obtain ⟨hx, h⟩ := h
    obtain ⟨h1, h2⟩ := nmW_ok' h
    refine ⟨fun i c hc => ?_, h2⟩
    simp only [lk] at hc
    split at hc
    · cases hc; exact hx
    · exact h1 i c hc
theorem nmW_ok {id : Nat} {own : List (Nat × List D)} {A : Prop} (h : nmW id own A) : NM id own ∧ A := ⟨⟨(nmW_ok' h).2.1, fun i c hc _ => (nmW_ok' h).1 i c hc⟩, (nmW_ok' h).2.2⟩
def pgW (id : Nat) (env : List (Nat × D)) (k : List (Nat × D) → Prop) : Prop := k (purge id env)
def soW (id : Nat) (cs : List D) (own : List (Nat × List D)) (k : List (Nat × List D) → Prop) : Prop := k (setO id cs own)

/-- What names a block drops out of the own blocks' cells. -/
def pgD (id : Nat) (d : D) : D := if mn id d = true then .any else d
def purgeO (id : Nat) (own : List (Nat × List D)) : List (Nat × List D) := own.map fun p => (p.1, p.2.map (pgD id))
def pgoW (id : Nat) (own : List (Nat × List D)) (k : List (Nat × List D) → Prop) : Prop := k (purgeO id own)
theorem lk_purgeO {id i : Nat} : ∀ {own : List (Nat × List D)}, lk i (purgeO id own) = (lk i own).map fun c => c.map (pgD id)
  | [] => rfl
  | (j, c) :: r => by
    have ih := lk_purgeO (id := id) (i := i) (own := r)
    simp only [purgeO, List.map_cons, lk] at ih ⊢
    split
    · rfl
    · exact ih
theorem mn_pgD (id : Nat) (d : D) : mn id (pgD id d) = false := by
  unfold pgD; split
  · rfl
  · rename_i h; simpa using h
theorem pgD_nm {id : Nat} {c : List D} (h : nmC id c) : c.map (pgD id) = c := by
  conv => rhs; rw [← List.map_id c]
  exact List.map_congr_left fun d hd => by unfold pgD; rw [h d hd]; rfl
theorem FS_purgeO {id : Nat} {φ : Loc} {own : List (Nat × List D)} {w : World} : FSx φ (purgeO id own) w = FSx φ own w := by
  funext b
  apply propext
  constructor
  · intro h
    exact ⟨h.1, fun i c hc => h.2 i (c.map (pgD id)) (by rw [lk_purgeO, hc]; rfl), h.3⟩
  · intro h
    refine ⟨h.1, fun i c hc => ?_, h.3⟩
    rw [lk_purgeO] at hc
    cases e : lk i own with
    | none => rw [e] at hc; cases hc
    | some c0 => exact h.2 i c0 e
theorem SatC.purgeO {w0 : Bas} {w : World} {φ : Loc} {S : St} {tmps : Array Value} (hs : SatC w0 φ S tmps w) (id : Nat) : SatC w0 φ ⟨S.n, S.nx, S.env, purgeO id S.own⟩ tmps w := by
  have old : ∀ {i c}, lk i (Abs.purgeO id S.own) = some c → ∃ c0, lk i S.own = some c0 ∧ c = c0.map (pgD id) := by
    intro i c hc
    rw [lk_purgeO] at hc
    cases e : lk i S.own with
    | none => rw [e] at hc; cases hc
    | some c0 => rw [e] at hc; exact ⟨c0, rfl, (Option.some.inj hc).symm⟩
  refine ⟨hs.below, hs.size, fun i c hc => ?_, fun i i' c c' b h1 h2 => ?_, fun s d hd => ?_, hs.base, hs.pin⟩
  · obtain ⟨c0, h0, rfl⟩ := old hc
    obtain ⟨h1, h2⟩ := hs.own i c0 h0
    refine ⟨?_, h2⟩
    show OwnOk w (FSx φ (Abs.purgeO id S.own) w) φ i _
    rw [FS_purgeO]
    unfold OwnOk at h1 ⊢
    revert h1
    cases (φ i).1 with
    | none =>
      rintro ⟨h, h'⟩
      refine ⟨fun j d hd => ?_, h'⟩
      rw [List.getElem?_map] at hd
      cases e0 : c0[j]? with
      | none => rw [e0] at hd; cases hd
      | some d0 =>
        rw [e0] at hd
        have hd : pgD id d0 = d := Option.some.inj hd
        subst hd
        obtain ⟨v, a1, a2⟩ := h j d0 e0
        refine ⟨v, a1, ?_⟩
        unfold pgD; split
        · exact .ro (.any _)
        · exact a2
    | some b =>
      rintro ⟨arr, T, fz, a1, a2, a3, a4, a5⟩
      refine ⟨arr, T, fz, a1, a2, a3, by simpa using a4, fun j v d hv hd => ?_⟩
      rw [List.getElem?_map] at hd
      cases e0 : c0[j]? with
      | none => rw [e0] at hd; cases hd
      | some d0 =>
        rw [e0] at hd
        have hd : pgD id d0 = d := Option.some.inj hd
        subst hd
        refine ⟨?_, (a5 j v d0 hv e0).2⟩
        unfold pgD; split
        · exact .ro (.any _)
        · exact (a5 j v d0 hv e0).1
  · obtain ⟨c0, h0, _⟩ := old h1
    obtain ⟨c0', h0', _⟩ := old h2
    exact hs.inj i i' c0 c0' b h0 h0'
  · show ∃ v, _ ∧ Rep φ w (FSx φ (Abs.purgeO id S.own) w) v d
    rw [FS_purgeO]; exact hs.env s d hd

/-- A new own block with these cells. -/
def newW (S : St) (cs : List D) (k : St → Prop) : Prop := nmW S.nx S.own (pgW S.nx S.env fun env' => k ⟨S.n, S.nx + 1, env', (S.nx, cs) :: S.own⟩)

def roomW (n by_ : Nat) (A : Prop) : Prop := n * by_ ≤ 140737488355328 ∧ n ≤ maxLen ∧ A

def appW (S : St) (sz by_ : Nat) (s : D) (m : Nat) (es : List D) (k : D → St → Prop) : Prop :=
  match s with
  | .osl id sz' n => lkoW id S.own fun c => sz' = sz ∧ c.length = n * sz ∧ nmC id c ∧ id < pinB ∧ roomW (n + m) by_ (pgoW id S.own fun own0 => pgW id S.env fun env' => soW id (c ++ es) own0 fun own' => k (.osl id sz (n + m)) ⟨S.n, S.nx, env', own'⟩)
  | .nils => roomW m by_ (newW S es fun S' => k (.osl S.nx sz m) S')
  | .slx sz' n cs => sz' = sz ∧ roomW (n + m) by_ ((n = 0 ∧ newW S es fun S' => k (.osl S.nx sz m) S') ∨ (0 < m ∧ newW S (cs ++ es) fun S' => k (.osl S.nx sz (n + m)) S') ∨ k (.sl sz (n + m) (cs ++ es)) S)
  | _ => False

theorem Rep.of_drew {φ : Loc} {w : World} {own : List (Nat × List D)} {v : Value} {d : D} (h : Rep φ w (FSx φ own w) v d) : Rep φ w.drew (FSx φ own w.drew) v d := h.ext (Below.refl _ _).drew
theorem SatC.drew {w0 : Bas} {w : World} {φ : Loc} {S : St} {tmps : Array Value} (h : SatC w0 φ S tmps w) : SatC w0 φ S tmps w.drew := h.ext (Below.refl _ _).drew

theorem mn_of_repR {w : World} {F : Nat → Prop} {v : Value} {d : D} (h : RepR w F v d) (id : Nat) : mn id d = false := by
  cases h <;> rfl

theorem zeroCells_size (z : Array Value) (n : Nat) : (Builtin.zeroCells z n).size = n * z.size := by simp [Builtin.zeroCells]

/-- The cells of the new row: what was there, what came, zeros. -/
theorem row_get {os vs : List Value} {zs : Array Value} {c es : List D} (ho : os.length = c.length) {j : Nat} {v : Value} {d : D}
    (hlv : vs.length = es.length) (hv : (os.toArray ++ vs.toArray ++ zs)[j]? = some v) (hd : (c ++ es)[j]? = some d) : (os[j]? = some v ∧ c[j]? = some d) ∨ (vs[j - c.length]? = some v ∧ es[j - c.length]? = some d) := by
  have hj : j < c.length + es.length := by have := (List.getElem?_eq_some_iff.1 hd).1; simpa using this
  rw [List.getElem?_append] at hd
  rw [Array.getElem?_append, if_pos (by simp; omega), Array.getElem?_append] at hv
  by_cases h : j < c.length
  · rw [if_pos h] at hd; rw [if_pos (by simp; omega)] at hv; exact .inl ⟨by simpa using hv, hd⟩
  · rw [if_neg h] at hd; rw [if_neg (by simp; omega)] at hv; exact .inr ⟨by simpa [ho] using hv, hd⟩

theorem row_size {os vs : List Value} {z : Array Value} {n m sz cap : Nat} (ho : os.length = n * sz) (hv : vs.length = m * sz) (hz : z.size = sz) (hc : n + m ≤ cap) :
    (os.toArray ++ vs.toArray ++ Builtin.zeroCells z (cap - (n + m))).size = cap * sz := by
  simp only [Array.size_append, List.size_toArray, zeroCells_size, hz, ho, hv, ← Nat.add_mul]
  congr 1
  omega

theorem SatC.congr_own {w0 : Bas} {w : World} {φ : Loc} {n nx : Nat} {env : List (Nat × D)} {own own' : List (Nat × List D)} {tmps : Array Value} (h : SatC w0 φ ⟨n, nx, env, own⟩ tmps w) (he : ∀ j, lk j own' = lk j own) : SatC w0 φ ⟨n, nx, env, own'⟩ tmps w := by
  have hF : ∀ w b, FSx φ own w b → FSx φ own' w b := fun w b hb => ⟨hb.1, fun i c hc => hb.2 i c (by rw [← he]; exact hc), hb.3⟩
  refine ⟨h.below, h.size, fun i c hc => ⟨((h.own i c (by rw [← he]; exact hc)).1).mono (fun _ _ => rfl) (hF w) (fun _ _ => rfl), (h.own i c (by rw [← he]; exact hc)).2⟩,
    fun i i' c c' b hc hc' => h.inj i i' c c' b (by rw [← he]; exact hc) (by rw [← he]; exact hc'), fun s d hd => ?_, h.base, h.pin⟩
  obtain ⟨v, hv, hr⟩ := h.env s d hd
  exact ⟨v, hv, hr.mono (fun _ _ => rfl) (hF w)⟩

theorem lk_setO_eq {id : Nat} {c : List D} {own : List (Nat × List D)} (h : lk id own = some c) (j : Nat) : lk j (setO id c own) = lk j own := by
  by_cases e : j = id
  · subst e; rw [lk_setO_same h, h]
  · exact lk_setO_other e

/-- A new row behind a draw: the call's own from here on. -/
theorem SatC.newDrew {w0 : Bas} {w : World} {φ : Loc} {S : St} {tmps : Array Value} (hs : SatC w0 φ S tmps w) {os vs : List Value} {zs : Array Value} {c es : List D} {T : TypeId} {arr : Array Value} (harr : arr = os.toArray ++ vs.toArray ++ zs)
    (ho : os.length = c.length) (hlv : vs.length = es.length) (h1 : ∀ (i : Nat) (v : Value) (d : D), os[i]? = some v → c[i]? = some d → RepR w (FSx φ S.own w) v d ∧ v.oneCell' = true)
    (h2 : ∀ (i : Nat) (v : Value) (d : D), vs[i]? = some v → es[i]? = some d → RepR w (FSx φ S.own w) v d ∧ v.oneCell' = true) (hnm : NM S.nx S.own) :
    SatC w0 (Abs.upd φ S.nx (some w.heap.size, arr.size)) ⟨S.n, S.nx + 1, Abs.purge S.nx S.env, (S.nx, c ++ es) :: S.own⟩ tmps (w.drew.alloc (.cells arr T)) := by
  have := hs.drew.new arr T (0, 0) (c ++ es) (fun o _ => by simp) (by subst harr; simp; omega) (fun i v d hv hd => by
    subst harr
    rcases row_get ho hlv hv hd with ⟨a, b⟩ | ⟨a, b⟩
    · exact ⟨(Rep.ro (h1 _ v d a b).1).of_drew, (h1 _ v d a b).2, mn_of_repR (h1 _ v d a b).1 _⟩
    · exact ⟨(Rep.ro (h2 _ v d a b).1).of_drew, (h2 _ v d a b).2, mn_of_repR (h2 _ v d a b).1 _⟩) hnm
  simpa using this

structure AppTy (P : Program) (sT xT e : TypeId) (i : TypeInfo) (z : Value) (u : TypeDesc) : Prop where
  ht : P.underlying sT = some (.slice e)
  hi : P.info? e = some i
  hz : i.zero = some z
  hzs : z.cells.size = i.size
  hx : P.underlying xT = some u
  hu : ∀ k, u ≠ .int k

/-- What an append leaves. -/
def Left (w0 : Bas) (S : St) (tmps : Array Value) (k : D → St → Prop) (v : Value) (w' : World) : Prop := ∃ φ' d S', k d S' ∧ SatC w0 φ' S' tmps w' ∧ Rep φ' w' (FSx φ' S'.own w') v d ∧ S'.n = S.n

section
variable {P : Program} {w0 : Bas} {w : World} {φ : Loc} {S : St} {tmps : Array Value} {sT xT ty e : TypeId} {i : TypeInfo} {z : Value} {u : TypeDesc} {x : Value} {m : Nat} {es : List D} {vs : List Value}

/-- .. onto an empty slice without capacity. -/
theorem app_empty (hs : SatC w0 φ S tmps w) (T : AppTy P sT xT e i z u) (src : Src P w (FSx φ S.own w) i.size x m es vs) {p : Option Addr} {k : D → St → Prop} (h : roomW m i.bytes (newW S es fun S' => k (.osl S.nx i.size m) S')) :
    ∃ v w', (Builtin.append_ #[sT, xT] ty #[.slice p 0 0, x]).run P w = .ok v w' ∧ Left w0 S tmps k v w' := by
  obtain ⟨hby, h63, h⟩ := h
  obtain ⟨hnm, hk⟩ := nmW_ok h
  have hve : vs.length = es.length := by rw [src.lv, src.lc]
  by_cases hm : m = 0
  · subst hm
    have h0 : vs = [] := List.eq_nil_of_length_eq_zero (by rw [src.lv]; simp)
    have h1 : es = [] := List.eq_nil_of_length_eq_zero (by rw [src.lc]; simp)
    subst h0; subst h1
    have hv := src.cells 0 (Nat.le_refl _) w (fun _ _ => rfl)
    simp only [List.take_nil] at hv
    refine ⟨_, _, run_append_fits T.ht T.hi T.hx T.hu src.len hv (by omega) (w' := w) (fun a _ => rfl) (fun _ => rfl), _, _, _, hk, hs.virt hnm, ?_, rfl⟩
    exact .osl0 (by rw [upd_same])
  · have hv := src.cells m (Nat.le_refl _) w.drew (fun _ _ => rfl)
    rw [List.take_of_length_le (by rw [src.lv]; exact Nat.le_refl _)] at hv
    have ho := (src_empty (P := P) (w := w) (F := FSx φ S.own w) p i.size 0).cells 0 (Nat.le_refl _) w.drew (fun _ _ => rfl)
    simp only [List.take_nil] at ho
    have hrun := run_append_grows (ty := ty) (p := p) (c := 0) T.ht T.hi T.hz T.hx T.hu src.len hv ho (by omega) (by simpa using hby) (by simpa using h63)
    refine ⟨_, _, hrun, _, _, _, hk, hs.newDrew (c := []) rfl rfl hve (fun i v d hv => by simp at hv) src.rep hnm, ?_, rfl⟩
    have hge : 0 + m ≤ grownCap w (0 + m) 0 e := grownCap_ge w _ _ _
    have hle : grownCap w (0 + m) 0 e ≤ maxLen := grownCap_le_maxLen w _ _ _ (by simpa using h63)
    rw [Nat.zero_add] at hge hle ⊢
    refine Rep.osl (by rw [upd_same]) ?_ hge hle
    rw [upd_same]
    have := row_size (os := []) (n := 0) (by simp) src.lv T.hzs (cap := grownCap w m 0 e) (by simpa using hge)
    simpa using this.symm
end

#print axioms run_append_grows
#print axioms app_empty
end Go.Abs
end
section
namespace Go.Abs
open Go.RowKit (Below)

section
variable {P : Program} {w0 : Bas} {w : World} {φ : Loc} {S : St} {tmps : Array Value} {sT xT ty e : TypeId} {i : TypeInfo} {z : Value} {u : TypeDesc} {x : Value} {m : Nat} {es : List D} {vs : List Value}

theorem app_own (hs : SatC w0 φ S tmps w) (T : AppTy P sT xT e i z u) (src : Src P w (FSx φ S.own w) i.size x m es vs) {sv : Value} {id n : Nat} (hsv : Rep φ w (FSx φ S.own w) sv (.osl id i.size n)) {k : D → St → Prop} {c : List D}
    (hid : lk id S.own = some c) (hl : c.length = n * i.size) (hby : (n + m) * i.bytes ≤ 140737488355328) (h63 : n + m ≤ maxLen) (hlt : id < pinB) (hnm : ∀ j c, lk j S.own = some c → ∀ d ∈ c, mn id d = false)
    (hk : k (.osl id i.size (n + m)) ⟨S.n, S.nx, Abs.purge id S.env, setO id (c ++ es) S.own⟩) :
    ∃ v w', (Builtin.append_ #[sT, xT] ty #[sv, x]).run P w = .ok v w' ∧ Left w0 S tmps k v w' := by
  have hve : vs.length = es.length := by rw [src.lv, src.lc]
  cases hsv with
  | ro h => cases h
  | @osl0 _ _ p hb =>
    have h0 : c = [] := List.eq_nil_of_length_eq_zero (by simpa using hl)
    subst h0
    by_cases hm : m = 0
    · subst hm
      have h0 : vs = [] := List.eq_nil_of_length_eq_zero (by rw [src.lv]; simp)
      have h1 : es = [] := List.eq_nil_of_length_eq_zero (by rw [src.lc]; simp)
      subst h0; subst h1
      have hv := src.cells 0 (Nat.le_refl _) w (fun _ _ => rfl)
      simp only [List.take_nil] at hv
      refine ⟨_, _, run_append_fits T.ht T.hi T.hx T.hu src.len hv (by omega) (w' := w) (fun a _ => rfl) (fun _ => rfl), φ, _, _, hk, ?_, .osl0 hb, rfl⟩
      exact SatC.congr_own (hs.purge id) (lk_setO_eq hid)
    · have hv := src.cells m (Nat.le_refl _) w.drew (fun _ _ => rfl)
      rw [List.take_of_length_le (by rw [src.lv]; exact Nat.le_refl _)] at hv
      have ho := (src_empty (P := P) (w := w) (F := FSx φ S.own w) p i.size 0).cells 0 (Nat.le_refl _) w.drew (fun _ _ => rfl)
      simp only [List.take_nil] at ho
      have hrun := run_append_grows (ty := ty) (p := p) (c := 0) T.ht T.hi T.hz T.hx T.hu src.len hv ho (by omega) hby h63
      have hge : 0 + m ≤ grownCap w (0 + m) 0 e := grownCap_ge w _ _ _
      have hle : grownCap w (0 + m) 0 e ≤ maxLen := grownCap_le_maxLen w _ _ _ h63
      have hsz := row_size (os := []) (n := 0) (by simp) src.lv T.hzs (cap := grownCap w (0 + m) 0 e) hge
      refine ⟨_, _, hrun, _, _, _, hk, hs.drew.regrow (cs := [] ++ es) _ e hid ?_ (fun j v d hv hd => ?_) ⟨hlt, fun j c hc _ => hnm j c hc⟩, ?_, rfl⟩
      · rw [hsz, List.nil_append, src.lc]; exact Nat.mul_le_mul_right _ (by omega)
      · rcases row_get (c := []) rfl hve hv hd with ⟨a, b⟩ | ⟨a, b⟩
        · simp at a
        · exact ⟨(Rep.ro (src.rep _ v d a b).1).of_drew, (src.rep _ v d a b).2, mn_of_repR (src.rep _ v d a b).1 _⟩
      · refine Rep.osl (by rw [upd_same]; rfl) ?_ hge hle
        rw [upd_same]
        exact hsz.symm
  | @osl _ _ _ cap b hb he hn hmx =>
    obtain ⟨arr, Tb, fz, h1, h2, h3, h4, h5, h6⟩ := own_cells hs hid hb
    have h0 := (hs.own id c hid).1
    by_cases hroom : n + m ≤ cap
    · have hv := src.cells m (Nat.le_refl _) w (fun _ _ => rfl)
      rw [List.take_of_length_le (by rw [src.lv]; exact Nat.le_refl _)] at hv
      have hfit : n * i.size + vs.length ≤ arr.size := by rw [src.lv, h2, ← he, ← Nat.add_mul]; exact Nat.mul_le_mul_right _ hroom
      have h1v : ∀ v ∈ vs, v.oneCell' = true := fun v hv => by
        obtain ⟨j, hj, rfl⟩ := List.getElem_of_mem hv
        exact (src.rep j vs[j] (es[j]'(by omega)) (by simp [hj]) (by simp)).2
      have hst := run_storeCells_cells (P := P) b (n * i.size) vs 0 w (fun j hj => by simp only [World.cell?, h1]; simp; omega) (fun j hj => by
        simp only [World.frozen?, h1, Nat.add_zero]
        have := h4 (n * i.size + j) (by omega)
        simp only [Bool.and_eq_false_iff, decide_eq_false_iff_not]
        omega) h1v
      simp only [Nat.add_zero] at hst
      refine ⟨_, _, run_append_fits T.ht T.hi T.hx T.hu src.len hv hroom (w' := w.setCells b (n * i.size) vs) (fun a ha => by cases ha; rw [addr_add, Nat.zero_add]; exact hst) (fun h => by cases h), φ, _, _, hk, ?_, .osl hb he hroom hmx, rfl⟩
      have hm := hs.mod (cs := c ++ es) (arr := setArr arr (n * i.size) vs) (T := Tb) (fz := fz) hid hb (setCells_os b vs _ w).1 (setCells_os b vs _ w).2.1 (setCells_os b vs _ w).2.2 (setCells_size b vs _ w)
        (fun k hk => setCells_heap_other b vs _ w k hk) (setCells_heap_same b vs _ w arr Tb fz h1) (by rw [setArr_size, h2]) (fun o ho => h4 o (by rwa [setArr_size] at ho)) (by rw [setArr_size]; simp; omega) ?_
      · exact hm.purge id
      · intro j v d hv hd
        rw [setArr_get vs _ arr j hfit] at hv
        rw [List.getElem?_append] at hd
        by_cases hj : j < c.length
        · rw [if_pos hj] at hd
          rw [if_neg (by omega)] at hv
          have := h6 j d hd
          rw [Array.getD_eq_getD_getElem?, hv, Option.getD_some] at this
          exact this
        · rw [if_neg hj] at hd
          have : j - c.length < es.length := (List.getElem?_eq_some_iff.1 hd).1
          rw [if_pos (by omega)] at hv
          rw [hl] at hd
          exact ⟨.ro (src.rep _ v d hv hd).1, (src.rep _ v d hv hd).2⟩
    · have hv := src.cells m (Nat.le_refl _) w.drew (fun _ _ => rfl)
      rw [List.take_of_length_le (by rw [src.lv]; exact Nat.le_refl _)] at hv
      have ho : (Builtin.firstCells i.size n (.slice (some ⟨b, 0, none⟩) n cap)).run P w.drew = .ok ((List.range (n * i.size)).map fun j => arr.getD j undef).toArray w.drew := by
        have := run_loadCells (P := P) w.drew ⟨b, 0, none⟩ (n * i.size) (fun j => arr.getD j undef) (fun j hj => by rw [addr_add, Nat.zero_add]; exact h5 j (by omega))
        simp only [Builtin.firstCells, this]
      have hrun := run_append_grows (ty := ty) (p := some ⟨b, 0, none⟩) (c := cap) T.ht T.hi T.hz T.hx T.hu src.len hv ho (by omega) hby h63
      have hge : n + m ≤ grownCap w (n + m) cap e := grownCap_ge w _ _ _
      have hle : grownCap w (n + m) cap e ≤ maxLen := grownCap_le_maxLen w _ _ _ h63
      have hsz := row_size (os := (List.range (n * i.size)).map fun j => arr.getD j undef) (by simp) src.lv T.hzs hge
      refine ⟨_, _, hrun, _, _, _, hk, hs.drew.regrow (cs := c ++ es) _ e hid ?_ (fun j v d hv hd => ?_) ⟨hlt, fun j c hc _ => hnm j c hc⟩, ?_, rfl⟩
      · rw [hsz, List.length_append, src.lc, hl, ← Nat.add_mul]; exact Nat.mul_le_mul_right _ hge
      · rcases row_get (by simp [hl]) hve hv hd with ⟨a, b'⟩ | ⟨a, b'⟩
        · have hj : j < n * i.size := by have := (List.getElem?_eq_some_iff.1 a).1; simpa using this
          simp only [List.getElem?_map, hj, List.getElem?_range, Option.map_some, Option.some.injEq] at a
          subst a
          exact ⟨(h6 j d b').1.of_drew, (h6 j d b').2, hnm id c hid d (List.mem_of_getElem? b')⟩
        · exact ⟨(Rep.ro (src.rep _ v d a b').1).of_drew, (src.rep _ v d a b').2, mn_of_repR (src.rep _ v d a b').1 _⟩
      · refine Rep.osl (by rw [upd_same]; rfl) ?_ hge hle
        rw [upd_same]
        exact hsz.symm

/-- .. onto a slice without room behind it. -/
theorem app_full (hs : SatC w0 φ S tmps w) (T : AppTy P sT xT e i z u) (src : Src P w (FSx φ S.own w) i.size x m es vs) {sv : Value} {n : Nat} {cs : List D} (hsv : Rep φ w (FSx φ S.own w) sv (.slx i.size n cs)) {k : D → St → Prop}
    (h : roomW (n + m) i.bytes ((n = 0 ∧ newW S es fun S' => k (.osl S.nx i.size m) S') ∨ (0 < m ∧ newW S (cs ++ es) fun S' => k (.osl S.nx i.size (n + m)) S') ∨ k (.sl i.size (n + m) (cs ++ es)) S)) :
    ∃ v w', (Builtin.append_ #[sT, xT] ty #[sv, x]).run P w = .ok v w' ∧ Left w0 S tmps k v w' := by
  have hve : vs.length = es.length := by rw [src.lv, src.lc]
  have hshape : ∃ p, sv = .slice p n n := by
    cases hsv with | ro h => cases h with
    | slx0 => exact ⟨_, rfl⟩
    | slx => exact ⟨_, rfl⟩
  obtain ⟨p, rfl⟩ := hshape
  obtain ⟨hby, h63, h⟩ := h
  rcases h with ⟨rfl, h⟩ | h
  · exact app_empty hs T src (p := p) ⟨by simpa using hby, by simpa using h63, h⟩
  obtain ⟨os, so⟩ : ∃ os, Src P w (FSx φ S.own w) i.size (.slice p n n) n cs os := by
    obtain ⟨n', cs', os, ⟨e1, e2⟩, so⟩ := srcW_ok (P := P) (k := fun a b => a = n ∧ b = cs) hs hsv (show srcW S i.size (.slx i.size n cs) _ from ⟨rfl, rfl, rfl⟩)
    subst e1; subst e2; exact ⟨os, so⟩
  have hoc : os.length = cs.length := by rw [so.lv, so.lc]
  by_cases hm : m = 0
  · subst hm
    have h0 : vs = [] := List.eq_nil_of_length_eq_zero (by rw [src.lv]; simp)
    have h1 : es = [] := List.eq_nil_of_length_eq_zero (by rw [src.lc]; simp)
    subst h0; subst h1
    rcases h with ⟨h, _⟩ | hk
    · omega
    have hv := src.cells 0 (Nat.le_refl _) w (fun _ _ => rfl)
    simp only [List.take_nil] at hv
    refine ⟨_, _, run_append_fits T.ht T.hi T.hx T.hu src.len hv (by omega) (w' := w) (fun a _ => rfl) (fun _ => rfl), φ, _, _, hk, hs, ?_, rfl⟩
    rw [Nat.add_zero, List.append_nil]
    cases hsv with | ro h => cases h with
    | slx0 => exact .ro (.sl0 (by simp [maxLen]))
    | slx g a b c d e f => exact .ro (.sl g a b (Nat.le_refl _) c d e f)
  · have hv := src.cells m (Nat.le_refl _) w.drew (fun _ _ => rfl)
    rw [List.take_of_length_le (by rw [src.lv]; exact Nat.le_refl _)] at hv
    have ho := so.cells n (Nat.le_refl _) w.drew (fun _ _ => rfl)
    rw [List.take_of_length_le (by rw [so.lv]; exact Nat.le_refl _)] at ho
    have hrun := run_append_grows (ty := ty) (p := p) (c := n) T.ht T.hi T.hz T.hx T.hu src.len hv ho (by omega) hby h63
    have hge : n + m ≤ grownCap w (n + m) n e := grownCap_ge w _ _ _
    have hle : grownCap w (n + m) n e ≤ maxLen := grownCap_le_maxLen w _ _ _ h63
    have hsz := row_size so.lv src.lv T.hzs hge
    rcases h with ⟨_, h⟩ | hk
    · obtain ⟨hnm, hk⟩ := nmW_ok h
      refine ⟨_, _, hrun, _, _, _, hk, hs.newDrew rfl hoc hve so.rep src.rep hnm, ?_, rfl⟩
      refine Rep.osl (by rw [upd_same]) ?_ hge hle
      rw [upd_same]
      exact hsz.symm
    · refine ⟨_, _, hrun, φ, _, _, hk, hs.ext ((Below.refl _ _).drew.alloc (Nat.le_refl _) _), ?_, rfl⟩
      have hlt : ∀ j, j < (n + m) * i.size → j < cs.length + es.length := fun j hj => by rw [so.lc, src.lc, ← Nat.add_mul]; exact hj
      have hbelow : Below w.heap.size w (w.drew.alloc (.cells (os.toArray ++ vs.toArray ++ Builtin.zeroCells z.cells (grownCap w (n + m) n e - (n + m))) e)) := (Below.refl _ _).drew.alloc (Nat.le_refl _) _
      have hcell : ∀ j, j < (n + m) * i.size → ∃ v, (os.toArray ++ vs.toArray ++ Builtin.zeroCells z.cells (grownCap w (n + m) n e - (n + m)))[j]? = some v := fun j hj => by
        have : j < (os.toArray ++ vs.toArray ++ Builtin.zeroCells z.cells (grownCap w (n + m) n e - (n + m))).size := by rw [hsz]; exact Nat.lt_of_lt_of_le hj (Nat.mul_le_mul_right _ hge)
        exact ⟨_, Array.getElem?_eq_getElem this⟩
      refine .ro (.sl (fun j => (os.toArray ++ vs.toArray ++ Builtin.zeroCells z.cells (grownCap w (n + m) n e - (n + m))).getD j undef) rfl ?_ hge hle (by rw [List.length_append, so.lc, src.lc, ← Nat.add_mul]) (fun j hj => ?_) (fun j d hd => ?_))
      · exact ⟨by simp, fun id c hc hb => absurd ((hs.own id c hc).1.lt hb) (Nat.lt_irrefl _), hs.newBase⟩
      · obtain ⟨v, hv⟩ := hcell j hj
        refine ⟨?_, ?_⟩
        · have : (w.drew.alloc (.cells (os.toArray ++ vs.toArray ++ Builtin.zeroCells z.cells (grownCap w (n + m) n e - (n + m))) e)).heap[w.heap.size]? = some (.cells (os.toArray ++ vs.toArray ++ Builtin.zeroCells z.cells (grownCap w (n + m) n e - (n + m))) e) := heap_alloc_new w.drew _
          simp only [World.cell?, this, Nat.zero_add, Option.isSome_none, Bool.false_eq_true, if_false, hv, Array.getD_eq_getD_getElem?, Option.getD_some]
        · obtain ⟨d, hd⟩ : ∃ d, (cs ++ es)[j]? = some d := ⟨(cs ++ es)[j]'(by simp; exact hlt j hj), by simp⟩
          rw [Array.getD_eq_getD_getElem?, hv, Option.getD_some]
          rcases row_get hoc hve hv hd with ⟨a, b⟩ | ⟨a, b⟩
          · exact (so.rep _ v d a b).2
          · exact (src.rep _ v d a b).2
      · have hj : j < (n + m) * i.size := by have := (List.getElem?_eq_some_iff.1 hd).1; simp [so.lc, src.lc, ← Nat.add_mul] at this; exact this
        obtain ⟨v, hv⟩ := hcell j hj
        rw [Array.getD_eq_getD_getElem?, hv, Option.getD_some]
        rcases row_get hoc hve hv hd with ⟨a, b⟩ | ⟨a, b⟩
        · exact (so.rep _ v d a b).1.mono (fun k hk => hbelow.block k hk.1) fun k hk => FSx.ext hbelow hk
        · exact (src.rep _ v d a b).1.mono (fun k hk => hbelow.block k hk.1) fun k hk => FSx.ext hbelow hk

theorem appW_ok (hs : SatC w0 φ S tmps w) (T : AppTy P sT xT e i z u) (src : Src P w (FSx φ S.own w) i.size x m es vs) {sv : Value} {s : D} (hsv : Rep φ w (FSx φ S.own w) sv s) {k : D → St → Prop} (h : appW S i.size i.bytes s m es k) :
    ∃ v w', (Builtin.append_ #[sT, xT] ty #[sv, x]).run P w = .ok v w' ∧ Left w0 S tmps k v w' := by
  cases s with
  | osl id sz' n =>
    obtain ⟨c, hid, rfl, hl, hnc, hlt, hby, h63, hk⟩ := lkoW_ok h
    refine app_own (hs.purgeO id) T (by show Src P w (FSx φ (Abs.purgeO id S.own) w) _ _ _ _ _; rw [FS_purgeO]; exact src) (by show Rep φ w (FSx φ (Abs.purgeO id S.own) w) _ _; rw [FS_purgeO]; exact hsv) (c := c) (by rw [lk_purgeO, hid, Option.map_some, pgD_nm hnc]) hl hby h63 hlt (fun j c' hc d hd => ?_) hk
    rw [lk_purgeO] at hc
    cases e : lk j S.own with
    | none => rw [e] at hc; cases hc
    | some c0 =>
      rw [e] at hc
      have hc : c0.map (pgD id) = c' := Option.some.inj hc
      subst hc
      obtain ⟨d0, _, rfl⟩ := List.mem_map.1 hd
      exact mn_pgD id d0
  | nils =>
    have : sv = .slice none 0 0 := by cases hsv with | ro h => cases h; rfl
    subst this
    exact app_empty hs T src h
  | slx sz' n cs =>
    obtain ⟨rfl, h⟩ := h
    exact app_full hs T src hsv h
  | _ => exact h.elim
end

#print axioms appW_ok
end Go.Abs
end
section
namespace Go.Abs
open Go.RowKit (Below)

section
variable {P : Program} {w0 : Bas} {w : World} {φ : Loc} {S : St} {tmps : Array Value}

theorem left_same (hs : SatC w0 φ S tmps w) {k : D → St → Prop} {v : Value} {d : D} (hk : k d S) (hr : Rep φ w (FSx φ S.own w) v d) : Left w0 S tmps k v w := ⟨φ, d, S, hk, hs, hr, rfl⟩

/-! ### A place in a row -/
def ixW (ty : TY) (sz : Nat) (dx di : D) (k : D → Prop) : Prop :=
  match di with
  | .int _ n =>
    match ty with
    | .slice _ =>
      match dx with
      | .sl sz' m cs | .slx sz' m cs => sz' = sz ∧ 0 ≤ n ∧ n < m ∧ k (.rop cs (n.toNat * sz))
      | .osl id sz' m => sz' = sz ∧ 0 ≤ n ∧ n < m ∧ k (.ptr id (n.toNat * sz))
      | .osw id off sz' m => sz' = sz ∧ 0 ≤ n ∧ n < m ∧ k (.ptr id (off + n.toNat * sz))
      | _ => False
    | .arr len _ =>
      match dx with
      | .ptr id off => 0 ≤ n ∧ n < len ∧ k (.ptr id (off + n.toNat * sz))
      | .rop cs off => 0 ≤ n ∧ n < len ∧ k (.rop cs (off + n.toNat * sz))
      | _ => False
    | _ => False
  | _ => False

theorem run_indexAt_slice {T e : TypeId} {i : TypeInfo} (ht : P.underlying T = some (.slice e)) (hi : P.info? e = some i) {a : Addr} {m c : Nat} {kk : IntKind} {n : Int} (h0 : 0 ≤ n) (h1 : n < m) :
    (Instr.indexAt T (.slice (some a) m c) (.int kk n)).run P w = .ok (.pointer (some (a.add (n.toNat * i.size)))) w := by
  simp [Instr.indexAt, asIntOf, run_underlying ht, h0, h1, sizeOf, typeInfo, hi]
theorem run_indexAt_arr {T e : TypeId} {i : TypeInfo} {len : Nat} (ht : P.underlying T = some (.array len e)) (hi : P.info? e = some i) {a : Addr} {kk : IntKind} {n : Int} (h0 : 0 ≤ n) (h1 : n < len) :
    (Instr.indexAt T (.pointer (some a)) (.int kk n)).run P w = .ok (.pointer (some (a.add (n.toNat * i.size)))) w := by
  simp [Instr.indexAt, asIntOf, run_underlying ht, h0, h1, sizeOf, typeInfo, hi, Instr.sureAddr]

theorem ixW_ok (hs : SatC w0 φ S tmps w) {T e : TypeId} {i : TypeInfo} (hi : P.info? e = some i) (he : (∃ n, tyOf P T = .arr n e) ∨ tyOf P T = .slice e) {xv iv : Value} {dx di : D} (hx : Rep φ w (FSx φ S.own w) xv dx) (hiv : Rep φ w (FSx φ S.own w) iv di) {k : D → Prop}
    (h : ixW (tyOf P T) i.size dx di k) : ∃ v d, (Instr.indexAt T xv iv).run P w = .ok v w ∧ k d ∧ Rep φ w (FSx φ S.own w) v d := by
  unfold ixW at h
  split at h
  case h_2 => exact h.elim
  case h_1 kk n =>
  obtain ⟨rfl, _⟩ := hiv.int_inv
  rcases he with ⟨len, he⟩ | he
  · rw [he] at h
    simp only at h
    have ht := tyOf_arr he
    split at h
    · obtain ⟨h0, h1, hk⟩ := h
      rename_i id off
      cases hx with
      | ro hx => cases hx
      | ptr hb => exact ⟨_, _, run_indexAt_arr ht hi h0 h1, hk, by rw [addr_add]; exact .ptr hb⟩
    · obtain ⟨h0, h1, hk⟩ := h
      cases hx with
      | ro hx => cases hx with
        | rop g a b c => exact ⟨_, _, run_indexAt_arr ht hi h0 h1, hk, by rw [addr_add, Nat.add_assoc]; exact .ro (.rop g a b c)⟩
    · exact h.elim
  · rw [he] at h
    simp only at h
    have ht := tyOf_slice he
    split at h
    · obtain ⟨rfl, h0, h1, hk⟩ := h
      cases hx with
      | ro hx => cases hx with
        | sl0 => omega
        | sl g a b c d e' f j => exact ⟨_, _, run_indexAt_slice ht hi h0 h1, hk, by rw [addr_add' a]; exact .ro (.rop g b (fun j hj => f j (by omega)) j)⟩
    · obtain ⟨rfl, h0, h1, hk⟩ := h
      cases hx with
      | ro hx => cases hx with
        | slx0 => omega
        | slx g a b c d e' f => exact ⟨_, _, run_indexAt_slice ht hi h0 h1, hk, by rw [addr_add' a]; exact .ro (.rop g b (fun j hj => e' j (by omega)) f)⟩
    · obtain ⟨rfl, h0, h1, hk⟩ := h
      cases hx with
      | ro hx => cases hx
      | osl0 hb => omega
      | osl hb a b c => exact ⟨_, _, run_indexAt_slice ht hi h0 h1, hk, by rw [addr_add, Nat.zero_add]; exact .ptr hb⟩
    · obtain ⟨rfl, h0, h1, hk⟩ := h
      cases hx with
      | ro hx => cases hx
      | osw0 hb => omega
      | osw hb a b c => exact ⟨_, _, run_indexAt_slice ht hi h0 h1, hk, by rw [addr_add]; exact .ptr hb⟩
    · exact h.elim

/-! ### A field -/
def fldW (P : Program) (t : TypeId) (f : Nat) (k : Nat → TypeId → Prop) : Prop :=
  match tyOf P t with
  | .struct fs => match fs[f]? with | some (o, ft) => k o ft | none => False
  | _ => False
theorem fldW_ok {t : TypeId} {f : Nat} {k : Nat → TypeId → Prop} (h : fldW P t f k) : ∃ (a : Array Field) (x : Field), P.underlying t = some (.struct a) ∧ a[f]? = some x ∧ k x.offset x.type := by
  unfold fldW at h
  split at h
  · rename_i fs e
    obtain ⟨a, ha, hfs⟩ := tyOf_struct e
    split at h
    · rename_i o ft hf
      rw [hfs] at hf
      simp only [List.getElem?_map, Array.getElem?_toList] at hf
      cases hx : a[f]? with
      | none => simp [hx] at hf
      | some x =>
        simp [hx] at hf
        obtain ⟨rfl, rfl⟩ := hf
        exact ⟨a, x, ha, hx, h⟩
    · exact h.elim
  · exact h.elim

def faW (dx : D) (o : Nat) (k : D → Prop) : Prop :=
  match dx with
  | .ptr id off => k (.ptr id (off + o))
  | .rop cs off => k (.rop cs (off + o))
  | _ => False
theorem faW_ok (hs : SatC w0 φ S tmps w) {T : TypeId} {f : Nat} {xv : Value} {dx : D} (hx : Rep φ w (FSx φ S.own w) xv dx) {k : D → Prop} (h : fldW P T f fun o ft => szW P ft fun n => n ≠ 0 ∧ faW dx o k) :
    ∃ v d, (Instr.fieldAt T xv f).run P w = .ok v w ∧ k d ∧ Rep φ w (FSx φ S.own w) v d := by
  obtain ⟨a, x, ha, hx', h⟩ := fldW_ok h
  obtain ⟨i, hi, hn, h⟩ := szW_ok h
  unfold faW at h
  split at h
  · cases hx with
    | ro hx => cases hx
    | ptr hb => exact ⟨_, _, by simp [Instr.fieldAt, run_underlying ha, hx', Instr.sureAddr, fieldPlace, sizeOf, typeInfo, hi, hn]; rfl, h, by rw [addr_add]; exact .ptr hb⟩
  · cases hx with
    | ro hx => cases hx with
      | rop g b c d => exact ⟨_, _, by simp [Instr.fieldAt, run_underlying ha, hx', Instr.sureAddr, fieldPlace, sizeOf, typeInfo, hi, hn]; rfl, h, by rw [addr_add, Nat.add_assoc]; exact .ro (.rop g b c d)⟩
  · exact h.elim

theorem run_part {t : TypeId} {i : TypeInfo} {ag : Bool} (hag : isAg (tyOf P t) = some ag) (hi : P.info? t = some i) {cs : Array Value} {o : Nat} {v : Value} (hv : ag = false → cs[o]? = some v) :
    (part t cs o).run P w = .ok (if ag = true then .agg (cs.extract o (o + i.size)) else v) w := by
  unfold part
  rw [Sem.run_bind, run_isAgg hag, Result.andThen_ok]
  cases ag with
  | true => simp [sizeOf, typeInfo, hi]
  | false => simp [hv rfl]

def fvW (dx : D) (ag : Bool) (sz o : Nat) (k : D → Prop) : Prop :=
  match dx with
  | .agg cs => rdW ag sz cs o .agg k
  | .oag cs => rdW ag sz cs o .oag k
  | _ => False

/-- A part of a struct or an array that is a value. -/
theorem part_ok {t : TypeId} {i : TypeInfo} {ag : Bool} (hag : isAg (tyOf P t) = some ag) (hi : P.info? t = some i) {xv : Value} {dx : D} {o : Nat} (hx : Rep φ w (FSx φ S.own w) xv dx) {k : D → Prop} (h : fvW dx ag i.size o k) :
    ∃ cs v d, xv = .agg cs ∧ (part t cs o).run P w = .ok v w ∧ k d ∧ Rep φ w (FSx φ S.own w) v d := by
  have core : ∀ (vs : Array Value) (ds : List D) (mk : List D → D), vs.size = ds.length → (∀ (i : Nat) (v : Value), vs[i]? = some v → v.oneCell' = true) → (∀ (i : Nat) (v : Value) (d : D), vs[i]? = some v → ds[i]? = some d → Rep φ w (FSx φ S.own w) v d) →
      (∀ (us : Array Value) (es : List D), us.size = es.length → (∀ (i : Nat) (v : Value), us[i]? = some v → v.oneCell' = true) → (∀ (i : Nat) (v : Value) (d : D), us[i]? = some v → es[i]? = some d → ∃ j : Nat, vs[j]? = some v ∧ ds[j]? = some d) → Rep φ w (FSx φ S.own w) (.agg us) (mk es)) →
      rdW ag i.size ds o mk k → ∃ v d, (part t vs o).run P w = .ok v w ∧ k d ∧ Rep φ w (FSx φ S.own w) v d := by
    intro vs ds mk hl h1 hr hmk h
    cases ag with
    | true =>
      obtain ⟨hle, hk⟩ := h
      refine ⟨_, _, run_part (v := undef) hag hi (fun h => by cases h), hk, ?_⟩
      simp only [if_true]
      refine hmk _ _ (by simp; omega) (fun j v hv => ?_) (fun j v d hv hd => ?_)
      · rw [Array.getElem?_extract] at hv
        split at hv
        · exact h1 _ v hv
        · cases hv
      · rw [Array.getElem?_extract] at hv
        rw [List.getElem?_take] at hd
        split at hv
        · split at hd
          · exact ⟨o + j, hv, by rw [List.getElem?_drop] at hd; exact hd⟩
          · cases hd
        · cases hv
    | false =>
      obtain ⟨d, hd, hk⟩ := nthW_ok h
      have hlt : o < vs.size := by rw [hl]; exact (List.getElem?_eq_some_iff.1 hd).1
      exact ⟨_, d, run_part hag hi (fun _ => Array.getElem?_eq_getElem hlt), hk, hr o _ d (Array.getElem?_eq_getElem hlt) hd⟩
  unfold fvW at h
  split at h
  · rename_i cs
    cases hx with
    | ro hx => cases hx with
      | @agg vs _ a b c =>
        obtain ⟨v, d, e1, e2, e3⟩ := core vs cs .agg a b (fun i v d hv hd => .ro (c i v d hv hd)) (fun us es l1 l2 l3 => .ro (.agg l1 l2 fun i v d hv hd => by obtain ⟨j, a1, a2⟩ := l3 i v d hv hd; exact c j v d a1 a2)) h
        exact ⟨vs, v, d, rfl, e1, e2, e3⟩
  · rename_i cs
    cases hx with
    | ro hx => cases hx
    | @oag vs _ a b c =>
      obtain ⟨v, d, e1, e2, e3⟩ := core vs cs .oag a b c (fun us es l1 l2 l3 => .oag l1 l2 fun i v d hv hd => by obtain ⟨j, a1, a2⟩ := l3 i v d hv hd; exact c j v d a1 a2) h
      exact ⟨vs, v, d, rfl, e1, e2, e3⟩
  · exact h.elim

theorem fieldW_ok {T : TypeId} {f : Nat} {xv : Value} {dx : D} (hx : Rep φ w (FSx φ S.own w) xv dx) {k : D → Prop} (h : fldW P T f fun o ft => szW P ft fun n => ∃ ag, isAg (tyOf P ft) = some ag ∧ fvW dx ag n o k) :
    ∃ v d, (Instr.field T xv f).run P w = .ok v w ∧ k d ∧ Rep φ w (FSx φ S.own w) v d := by
  obtain ⟨a, x, ha, hx', h⟩ := fldW_ok h
  obtain ⟨i, hi, ag, hag, h⟩ := szW_ok h
  obtain ⟨cs, v, d, rfl, hrun, hk, hr⟩ := part_ok hag hi hx h
  exact ⟨v, d, by simp [Instr.field, run_underlying ha, hx', asAgg, hrun], hk, hr⟩

/-! ### A value of an array, a string, at an index -/
def inxW (ty : TY) (ag : Option Bool) (sz : Nat) (dx di : D) (k : D → Prop) : Prop :=
  match di with
  | .int _ n =>
    match ty, dx with
    | .str, .str s => 0 ≤ n ∧ ∃ h : n.toNat < s.length, k (.int .u8 s[n.toNat].toNat)
    | .arr len _, dx => 0 ≤ n ∧ n < len ∧ ∃ a, ag = some a ∧ fvW dx a sz (n.toNat * sz) k
    | _, _ => False
  | _ => False
theorem inx_str_ok {T : TypeId} (ht : tyOf P T = .str) {xv iv : Value} {s : List UInt8} {di : D} (hx : Rep φ w (FSx φ S.own w) xv (.str s)) (hiv : Rep φ w (FSx φ S.own w) iv di) {k : D → Prop} {kk : IntKind} {n : Int} (hdi : di = .int kk n)
    (h : 0 ≤ n ∧ ∃ h : n.toNat < s.length, k (.int .u8 s[n.toNat].toNat)) : ∃ v d, (Instr.index T xv iv).run P w = .ok v w ∧ k d ∧ Rep φ w (FSx φ S.own w) v d := by
  subst hdi
  obtain ⟨rfl, _⟩ := hiv.int_inv
  obtain ⟨b, rfl, hb, hl⟩ := hx.str_inv
  obtain ⟨h0, h1, hk⟩ := h
  subst hb
  have hg : b[n.toNat]? = some (b.data.toList[n.toNat]) := by
    have hsz : n.toNat < b.size := by rw [ba_size]; exact h1
    rw [getElem?_pos b n.toNat hsz]
    rfl
  refine ⟨.int .u8 (b.data.toList[n.toNat].toNat), _, ?_, hk, .ro (.int ?_ ?_)⟩
  · simp [Instr.index, asIntOf, run_underlying (tyOf_str ht), h0, hg]
  · show (0 : Int) ≤ _; omega
  · have := (b.data.toList[n.toNat]).toNat_lt
    show _ ≤ (255 : Int); omega
theorem inx_arr_ok {T e : TypeId} {len : Nat} (ht : tyOf P T = .arr len e) {i : TypeInfo} (hi : P.info? e = some i) {xv iv : Value} {dx di : D} (hx : Rep φ w (FSx φ S.own w) xv dx) (hiv : Rep φ w (FSx φ S.own w) iv di) {k : D → Prop} {kk : IntKind} {n : Int} (hdi : di = .int kk n)
    (h : 0 ≤ n ∧ n < len ∧ ∃ a, isAg (tyOf P e) = some a ∧ fvW dx a i.size (n.toNat * i.size) k) : ∃ v d, (Instr.index T xv iv).run P w = .ok v w ∧ k d ∧ Rep φ w (FSx φ S.own w) v d := by
  subst hdi
  obtain ⟨rfl, _⟩ := hiv.int_inv
  obtain ⟨h0, h1, ag, hag, h⟩ := h
  obtain ⟨cs, v, d, rfl, hrun, hk, hr⟩ := part_ok hag hi hx h
  exact ⟨v, d, by simp [Instr.index, asIntOf, run_underlying (tyOf_arr ht), h0, h1, sizeOf, typeInfo, hi, hrun], hk, hr⟩
end

#print axioms ixW_ok
#print axioms fieldW_ok
#print axioms inx_arr_ok
end Go.Abs
end
section
namespace Go.Abs
open Go.RowKit (Below)

section
variable {P : Program} {w0 : Bas} {w : World} {φ : Loc} {S : St} {tmps : Array Value}

/-! ### x[lo:hi], x[lo:hi:max] -/
/-- The two or three bounds, as numbers. -/
def boD (d : Option D) (k : Option Int → Prop) : Prop :=
  match d with
  | none => k none
  | some (.int _ n) => k (some n)
  | _ => False

def slcW (ty : TY) (sz : Nat) (dx : D) (lo hi mx : Option Int) (k : D → Prop) : Prop :=
  match ty, dx with
  | .str, .str s => mx = none ∧ 0 ≤ lo.getD 0 ∧ lo.getD 0 ≤ hi.getD s.length ∧ hi.getD s.length ≤ s.length ∧ k (.str ((s.drop (lo.getD 0).toNat).take ((hi.getD s.length).toNat - (lo.getD 0).toNat)))
  | .slice _, .sl sz' n cs | .slice _, .slx sz' n cs =>
    sz' = sz ∧ 0 ≤ lo.getD 0 ∧ lo.getD 0 ≤ hi.getD n ∧ hi.getD n ≤ n ∧
      match mx with
      | none => k (.sl sz ((hi.getD n).toNat - (lo.getD 0).toNat) ((cs.drop ((lo.getD 0).toNat * sz)).take (((hi.getD n).toNat - (lo.getD 0).toNat) * sz)))
      | some m => m = hi.getD n ∧ hi.isSome = true ∧ k (.slx sz ((hi.getD n).toNat - (lo.getD 0).toNat) ((cs.drop ((lo.getD 0).toNat * sz)).take (((hi.getD n).toNat - (lo.getD 0).toNat) * sz)))
  | .slice _, .osl id sz' n => sz' = sz ∧ mx = none ∧ 0 ≤ lo.getD 0 ∧ lo.getD 0 ≤ hi.getD n ∧ hi.getD n ≤ n ∧ k (.osw id ((lo.getD 0).toNat * sz) sz ((hi.getD n).toNat - (lo.getD 0).toNat))
  | .slice _, .osw id off sz' n => sz' = sz ∧ mx = none ∧ 0 ≤ lo.getD 0 ∧ lo.getD 0 ≤ hi.getD n ∧ hi.getD n ≤ n ∧ k (.osw id (off + (lo.getD 0).toNat * sz) sz ((hi.getD n).toNat - (lo.getD 0).toNat))
  | .arr len _, .ptr id off => mx = none ∧ 0 ≤ lo.getD 0 ∧ lo.getD 0 ≤ hi.getD len ∧ hi.getD len ≤ len ∧ lkoW id S.own fun c => off + len * sz ≤ c.length ∧ len ≤ maxLen ∧ k (.osw id (off + (lo.getD 0).toNat * sz) sz ((hi.getD len).toNat - (lo.getD 0).toNat))
  | .arr len _, .rop cs off => mx = none ∧ 0 ≤ lo.getD 0 ∧ lo.getD 0 ≤ hi.getD len ∧ hi.getD len ≤ len ∧ off + len * sz ≤ cs.length ∧ len ≤ maxLen ∧ k (.sl sz ((hi.getD len).toNat - (lo.getD 0).toNat) ((cs.drop (off + (lo.getD 0).toNat * sz)).take (((hi.getD len).toNat - (lo.getD 0).toNat) * sz)))
  | _, _ => False

/-- Bounds as the machine has them. -/
def BoOk (w : World) (v : Option Value) (d : Option Int) : Prop :=
  match v, d with
  | none, none => True
  | some v, some n => ∃ k, v = .int k n
  | _, _ => False
theorem run_sliceBound {v : Value} {k : IntKind} {n : Int} {y : Nat} {code : BoundsCode} (hv : v = .int k n) (h0 : 0 ≤ n) (h1 : n ≤ y) : (Instr.sliceBound v y code).run P w = .ok n.toNat w := by
  subst hv; simp [Instr.sliceBound, asIntOf, h0, h1]

theorem run_sliceBounds {isS : Bool} {len cap : Nat} {lo hi mx : Option Value} {l h m : Option Int} (hl : BoOk w lo l) (hh : BoOk w hi h) (hm : BoOk w mx m) (h0 : 0 ≤ l.getD 0) (h1 : l.getD 0 ≤ h.getD len) (h2 : h.getD len ≤ len) (hlc : len ≤ cap)
    (hmx : ∀ x, m = some x → x = h.getD len ∧ h.isSome = true) :
    (Instr.sliceBounds isS len cap lo hi mx).run P w = .ok ((l.getD 0).toNat, (h.getD len).toNat, (m.getD cap).toNat) w := by
  cases m with
  | none =>
    cases mx with
    | some x => exact hm.elim
    | none =>
      cases h with
      | none =>
        cases hi with
        | some x => exact hh.elim
        | none =>
          cases l with
          | none =>
            cases lo with
            | some x => exact hl.elim
            | none => simp [Instr.sliceBounds]
          | some ln =>
            cases lo with
            | none => exact hl.elim
            | some x =>
              obtain ⟨k, rfl⟩ := hl
              simp only [Option.getD_some, Option.getD_none] at h0 h1
              simp [Instr.sliceBounds, run_sliceBound rfl h0 h1]
      | some hn =>
        cases hi with
        | none => exact hh.elim
        | some x =>
          obtain ⟨k, rfl⟩ := hh
          simp only [Option.getD_some] at h1 h2
          have hb : ∀ c, (Instr.sliceBound (.int k hn) cap c).run P w = .ok hn.toNat w := fun c => run_sliceBound rfl (by omega) (by omega)
          cases l with
          | none =>
            cases lo with
            | some x => exact hl.elim
            | none => cases isS <;> simp [Instr.sliceBounds, hb]
          | some ln =>
            cases lo with
            | none => exact hl.elim
            | some x =>
              obtain ⟨k', rfl⟩ := hl
              simp only [Option.getD_some] at h0 h1
              have hb' : ∀ c, (Instr.sliceBound (.int k' ln) hn.toNat c).run P w = .ok ln.toNat w := fun c => run_sliceBound rfl h0 (by omega)
              cases isS <;> simp [Instr.sliceBounds, hb, hb']
  | some mn =>
    obtain ⟨rfl, hs⟩ := hmx mn rfl
    cases h with
    | none => cases hs
    | some hn =>
      cases hi with
      | none => exact hh.elim
      | some x =>
        obtain ⟨k, rfl⟩ := hh
        cases mx with
        | none => exact hm.elim
        | some y =>
          obtain ⟨k2, rfl⟩ := hm
          simp only [Option.getD_some] at h1 h2
          have hb2 : ∀ c, (Instr.sliceBound (.int k2 hn) cap c).run P w = .ok hn.toNat w := fun c => run_sliceBound rfl (by omega) (by omega)
          have hb : ∀ c, (Instr.sliceBound (.int k hn) hn.toNat c).run P w = .ok hn.toNat w := fun c => run_sliceBound rfl (by omega) (by omega)
          cases l with
          | none =>
            cases lo with
            | some x => exact hl.elim
            | none => cases isS <;> simp [Instr.sliceBounds, hb, hb2]
          | some ln =>
            cases lo with
            | none => exact hl.elim
            | some x =>
              obtain ⟨k', rfl⟩ := hl
              simp only [Option.getD_some] at h0 h1
              have hb' : ∀ c, (Instr.sliceBound (.int k' ln) hn.toNat c).run P w = .ok ln.toNat w := fun c => run_sliceBound rfl h0 (by omega)
              cases isS <;> simp [Instr.sliceBounds, hb, hb2, hb']

theorem run_sliceAt_slice {T e : TypeId} {i : TypeInfo} (ht : P.underlying T = some (.slice e)) (hi : P.info? e = some i) {a : Option Addr} {len cap : Nat} {lo hi' mx : Option Value} {l h m : Nat}
    (hb : (Instr.sliceBounds true len cap lo hi' mx).run P w = .ok (l, h, m) w) :
    (Instr.sliceAt T (.slice a len cap) lo hi' mx).run P w = .ok (.slice (if m = l then a else a.map (·.add (l * i.size))) (h - l) (m - l)) w := by
  simp [Instr.sliceAt, Instr.slice, run_underlying ht, hb, sizeOf, typeInfo, hi]
theorem run_sliceAt_arr {T e : TypeId} {i : TypeInfo} {n : Nat} (ht : P.underlying T = some (.array n e)) (hi : P.info? e = some i) {a : Addr} {lo hi' mx : Option Value} {l h m : Nat}
    (hb : (Instr.sliceBounds false n n lo hi' mx).run P w = .ok (l, h, m) w) :
    (Instr.sliceAt T (.pointer (some a)) lo hi' mx).run P w = .ok (.slice (some (if m = l then a else a.add (l * i.size))) (h - l) (m - l)) w := by
  simp [Instr.sliceAt, run_underlying ht, hb, sizeOf, typeInfo, hi, Instr.sureAddr]
theorem run_sliceAt_str {T : TypeId} (ht : P.underlying T = some .string) {s : ByteArray} {lo hi' : Option Value} {l h m : Nat}
    (hb : (Instr.sliceBounds false s.size s.size lo hi' none).run P w = .ok (l, h, m) w) :
    (Instr.sliceAt T (.string s) lo hi' none).run P w = .ok (.string (s.extract l h)) w := by
  simp [Instr.sliceAt, Instr.slice, run_underlying ht, hb]

theorem extract_list (s : ByteArray) (l h : Nat) : (s.extract l h).data.toList = (s.data.toList.drop l).take (h - l) := by
  rw [ByteArray.data_extract, Array.toList_extract, List.extract_eq_take_drop]

/-- A part of a readable row. -/
theorem rep_part {F : Nat → Prop} {a : Addr} {sz n c l h : Nat} {cs : List D} (g : Nat → Value) (hsp : a.spot = none) (hF : F a.block) (hc : ∀ (j : Nat), j < n * sz → w.cell? ⟨a.block, a.off + j, none⟩ = some (g j) ∧ (g j).oneCell' = true)
    (hd : ∀ (j : Nat) (d : D), cs[j]? = some d → RepR w F (g j) d) (hlen : cs.length = n * sz) (hl : l ≤ h) (hh : h ≤ n) {p : Addr} (hp : p.spot = none ∧ p.block = a.block ∧ (h = l ∨ p.off = a.off + l * sz)) (hcc : h - l ≤ c) (hm : c ≤ maxLen) :
    RepR w F (.slice (some p) (h - l) c) (.sl sz (h - l) ((cs.drop (l * sz)).take ((h - l) * sz))) ∧ (c = h - l → RepR w F (.slice (some p) (h - l) c) (.slx sz (h - l) ((cs.drop (l * sz)).take ((h - l) * sz)))) := by
  have hmul : l * sz + (h - l) * sz ≤ n * sz := by rw [← Nat.add_mul]; exact Nat.mul_le_mul_right _ (by omega)
  have h1 : ((cs.drop (l * sz)).take ((h - l) * sz)).length = (h - l) * sz := by simp; omega
  by_cases he : h = l
  · subst he
    simp only [Nat.sub_self, Nat.zero_mul, List.take_zero]
    exact ⟨.sl0 hm, fun hc => by subst hc; exact .slx0⟩
  · obtain ⟨p1, p2, p3⟩ := hp
    have p3 := p3.resolve_left he
    have hcell : ∀ (j : Nat), j < (h - l) * sz → w.cell? ⟨p.block, p.off + j, none⟩ = some (g (l * sz + j)) ∧ (g (l * sz + j)).oneCell' = true := fun j hj => by
      rw [p2, p3, Nat.add_assoc]; exact hc _ (by omega)
    have hdd : ∀ (j : Nat) (d : D), ((cs.drop (l * sz)).take ((h - l) * sz))[j]? = some d → RepR w F (g (l * sz + j)) d := fun j d hj => by
      rw [List.getElem?_take] at hj
      split at hj
      · rw [List.getElem?_drop] at hj; exact hd _ d hj
      · cases hj
    refine ⟨.sl (fun j => g (l * sz + j)) p1 (by rw [p2]; exact hF) hcc hm h1 hcell hdd, fun hce => ?_⟩
    rw [hce]
    exact .slx (fun j => g (l * sz + j)) p1 (by rw [p2]; exact hF) (by omega) h1 hcell hdd

theorem slcW_ok (hs : SatC w0 φ S tmps w) {T e : TypeId} {sz : Nat} (hi : (∃ i, P.info? e = some i ∧ i.size = sz) ∧ (tyOf P T = .slice e ∨ ∃ n, tyOf P T = .arr n e) ∨ tyOf P T = .str) {xv : Value} {dx : D} (hx : Rep φ w (FSx φ S.own w) xv dx)
    {lo hi' mx : Option Value} {l h m : Option Int} (hl : BoOk w lo l) (hh : BoOk w hi' h) (hm : BoOk w mx m) {k : D → Prop} (hk : slcW (S := S) (tyOf P T) sz dx l h m k) :
    ∃ v d, (Instr.sliceAt T xv lo hi' mx).run P w = .ok v w ∧ k d ∧ Rep φ w (FSx φ S.own w) v d := by
  rcases hi with ⟨⟨i, hi, rfl⟩, he | ⟨len, he⟩⟩ | he
  · have ht := tyOf_slice he
    rw [he] at hk
    cases dx with
    | sl sz' n cs =>
      obtain ⟨rfl, h0, h1, h2, hk⟩ := hk
      have hmx : ∀ x, m = some x → x = h.getD n ∧ h.isSome = true := fun x hx => by subst hx; exact ⟨hk.1, hk.2.1⟩
      cases hx with | ro hx => cases hx with
      | @sl0 _ c p hcm =>
        have hrun := run_sliceBounds (P := P) (isS := true) (cap := c) hl hh hm h0 h1 h2 (by omega) hmx
        have e1 : (h.getD ((0 : Nat) : Int)).toNat - (l.getD 0).toNat = 0 := by omega
        cases m with
        | none =>
          refine ⟨_, _, run_sliceAt_slice ht hi hrun, hk, .ro ?_⟩
          rw [e1, Nat.zero_mul, List.take_zero]
          exact .sl0 (by simp only [Option.getD_none]; omega)
        | some x =>
          refine ⟨_, _, run_sliceAt_slice ht hi hrun, hk.2.2, .ro ?_⟩
          rw [e1, Nat.zero_mul, List.take_zero]
          have : ((some x).getD (c : Int)).toNat - (l.getD 0).toNat = 0 := by rw [Option.getD_some, hk.1]; exact e1
          rw [this]
          exact .slx0
      | @sl a c _ _ _ g a1 a2 a3 a4 a5 a6 a7 =>
        have hrun := run_sliceBounds (P := P) (isS := true) (cap := c) hl hh hm h0 h1 h2 a3 hmx
        cases m with
        | none =>
          have := rep_part (w := w) (c := (((none : Option Int).getD (c : Int)).toNat) - (l.getD 0).toNat) (l := (l.getD 0).toNat) (h := (h.getD (n : Int)).toNat) g a1 a2 a6 a7 a5 (by omega) (by omega)
            (p := if ((none : Option Int).getD (c : Int)).toNat = (l.getD 0).toNat then a else a.add ((l.getD 0).toNat * i.size)) (by
              simp only [Option.getD_none]
              split
              · exact ⟨a1, rfl, .inl (by omega)⟩
              · rw [addr_add' a1]; exact ⟨rfl, rfl, .inr rfl⟩) (by simp only [Option.getD_none]; omega) (by simp only [Option.getD_none]; omega)
          refine ⟨_, _, run_sliceAt_slice ht hi hrun, hk, .ro ?_⟩
          have e : (if ((none : Option Int).getD (c : Int)).toNat = (l.getD 0).toNat then some a else (some a).map (·.add ((l.getD 0).toNat * i.size))) = some (if ((none : Option Int).getD (c : Int)).toNat = (l.getD 0).toNat then a else a.add ((l.getD 0).toNat * i.size)) := by split <;> rfl
          rw [e]
          exact this.1
        | some x =>
          have := rep_part (w := w) (c := (((some x).getD (c : Int)).toNat) - (l.getD 0).toNat) (l := (l.getD 0).toNat) (h := (h.getD (n : Int)).toNat) g a1 a2 a6 a7 a5 (by omega) (by omega)
            (p := if ((some x).getD (c : Int)).toNat = (l.getD 0).toNat then a else a.add ((l.getD 0).toNat * i.size)) (by
              simp only [Option.getD_some]
              have := hk.1
              split
              · exact ⟨a1, rfl, .inl (by omega)⟩
              · rw [addr_add' a1]; exact ⟨rfl, rfl, .inr rfl⟩) (by have := hk.1; simp only [Option.getD_some]; omega) (by have := hk.1; simp only [Option.getD_some]; omega)
          refine ⟨_, _, run_sliceAt_slice ht hi hrun, hk.2.2, .ro ?_⟩
          have e : (if ((some x).getD (c : Int)).toNat = (l.getD 0).toNat then some a else (some a).map (·.add ((l.getD 0).toNat * i.size))) = some (if ((some x).getD (c : Int)).toNat = (l.getD 0).toNat then a else a.add ((l.getD 0).toNat * i.size)) := by split <;> rfl
          rw [e]
          exact this.2 (by rw [Option.getD_some, hk.1])
    | slx sz' n cs =>
      obtain ⟨rfl, h0, h1, h2, hk⟩ := hk
      have hmx : ∀ x, m = some x → x = h.getD n ∧ h.isSome = true := fun x hx => by subst hx; exact ⟨hk.1, hk.2.1⟩
      cases hx with | ro hx => cases hx with
      | @slx0 _ p =>
        have hrun := run_sliceBounds (P := P) (isS := true) (cap := 0) hl hh hm h0 h1 h2 (by omega) hmx
        have e1 : (h.getD ((0 : Nat) : Int)).toNat - (l.getD 0).toNat = 0 := by omega
        cases m with
        | none =>
          refine ⟨_, _, run_sliceAt_slice ht hi hrun, hk, .ro ?_⟩
          rw [e1, Nat.zero_mul, List.take_zero]
          exact .sl0 (by simp only [Option.getD_none]; omega)
        | some x =>
          refine ⟨_, _, run_sliceAt_slice ht hi hrun, hk.2.2, .ro ?_⟩
          rw [e1, Nat.zero_mul, List.take_zero]
          have : ((some x).getD ((0 : Nat) : Int)).toNat - (l.getD 0).toNat = 0 := by rw [Option.getD_some, hk.1]; exact e1
          rw [this]
          exact .slx0
      | @slx a _ _ _ g a1 a2 a4 a5 a6 a7 =>
        have hrun := run_sliceBounds (P := P) (isS := true) (cap := n) hl hh hm h0 h1 h2 (Nat.le_refl _) hmx
        cases m with
        | none =>
          have := rep_part (w := w) (c := (((none : Option Int).getD (n : Int)).toNat) - (l.getD 0).toNat) (l := (l.getD 0).toNat) (h := (h.getD (n : Int)).toNat) g a1 a2 a6 a7 a5 (by omega) (by omega)
            (p := if ((none : Option Int).getD (n : Int)).toNat = (l.getD 0).toNat then a else a.add ((l.getD 0).toNat * i.size)) (by
              simp only [Option.getD_none]
              split
              · exact ⟨a1, rfl, .inl (by omega)⟩
              · rw [addr_add' a1]; exact ⟨rfl, rfl, .inr rfl⟩) (by simp only [Option.getD_none]; omega) (by simp only [Option.getD_none]; omega)
          refine ⟨_, _, run_sliceAt_slice ht hi hrun, hk, .ro ?_⟩
          have e : (if ((none : Option Int).getD (n : Int)).toNat = (l.getD 0).toNat then some a else (some a).map (·.add ((l.getD 0).toNat * i.size))) = some (if ((none : Option Int).getD (n : Int)).toNat = (l.getD 0).toNat then a else a.add ((l.getD 0).toNat * i.size)) := by split <;> rfl
          rw [e]
          exact this.1
        | some x =>
          have := rep_part (w := w) (c := (((some x).getD (n : Int)).toNat) - (l.getD 0).toNat) (l := (l.getD 0).toNat) (h := (h.getD (n : Int)).toNat) g a1 a2 a6 a7 a5 (by omega) (by omega)
            (p := if ((some x).getD (n : Int)).toNat = (l.getD 0).toNat then a else a.add ((l.getD 0).toNat * i.size)) (by
              simp only [Option.getD_some]
              have := hk.1
              split
              · exact ⟨a1, rfl, .inl (by omega)⟩
              · rw [addr_add' a1]; exact ⟨rfl, rfl, .inr rfl⟩) (by have := hk.1; simp only [Option.getD_some]; omega) (by have := hk.1; simp only [Option.getD_some]; omega)
          refine ⟨_, _, run_sliceAt_slice ht hi hrun, hk.2.2, .ro ?_⟩
          have e : (if ((some x).getD (n : Int)).toNat = (l.getD 0).toNat then some a else (some a).map (·.add ((l.getD 0).toNat * i.size))) = some (if ((some x).getD (n : Int)).toNat = (l.getD 0).toNat then a else a.add ((l.getD 0).toNat * i.size)) := by split <;> rfl
          rw [e]
          exact this.2 (by rw [Option.getD_some, hk.1])
    | osl id sz' n =>
      obtain ⟨rfl, rfl, h0, h1, h2, hk⟩ := hk
      cases hx with
      | ro hx => cases hx
      | @osl0 _ _ p hb =>
        have hrun := run_sliceBounds (P := P) (isS := true) (cap := 0) hl hh hm h0 h1 h2 (by omega) (fun x hx => by cases hx)
        have e1 : (h.getD ((0 : Nat) : Int)).toNat - (l.getD 0).toNat = 0 := by omega
        refine ⟨_, _, run_sliceAt_slice ht hi hrun, hk, ?_⟩
        rw [e1]
        exact .osw0 (by simp only [Option.getD_none]; omega)
      | @osl _ _ _ c b hb a1 a2 a3 =>
        have hrun := run_sliceBounds (P := P) (isS := true) (cap := c) hl hh hm h0 h1 h2 a2 (fun x hx => by cases hx)
        refine ⟨_, _, run_sliceAt_slice ht hi hrun, hk, ?_⟩
        simp only [Option.getD_none, Int.toNat_natCast]
        by_cases hc : c = (l.getD 0).toNat
        · have e1 : (h.getD (n : Int)).toNat - (l.getD 0).toNat = 0 := by omega
          rw [if_pos hc, e1]; exact .osw0 (by omega)
        · rw [if_neg hc, Option.map_some, addr_add, Nat.zero_add]
          refine .osw hb (by omega) (by omega) ?_
          rw [← a1, ← Nat.add_mul]; exact Nat.mul_le_mul_right _ (by omega)
    | osw id off sz' n =>
      obtain ⟨rfl, rfl, h0, h1, h2, hk⟩ := hk
      cases hx with
      | ro hx => cases hx
      | @osw0 _ _ _ c p hcm =>
        have hrun := run_sliceBounds (P := P) (isS := true) (cap := c) hl hh hm h0 h1 h2 (by omega) (fun x hx => by cases hx)
        have e1 : (h.getD ((0 : Nat) : Int)).toNat - (l.getD 0).toNat = 0 := by omega
        refine ⟨_, _, run_sliceAt_slice ht hi hrun, hk, ?_⟩
        rw [e1]
        exact .osw0 (by simp only [Option.getD_none]; omega)
      | @osw _ _ _ _ c b hb a2 a3 a1 =>
        have hrun := run_sliceBounds (P := P) (isS := true) (cap := c) hl hh hm h0 h1 h2 a2 (fun x hx => by cases hx)
        refine ⟨_, _, run_sliceAt_slice ht hi hrun, hk, ?_⟩
        simp only [Option.getD_none, Int.toNat_natCast]
        by_cases hc : c = (l.getD 0).toNat
        · have e1 : (h.getD (n : Int)).toNat - (l.getD 0).toNat = 0 := by omega
          rw [if_pos hc, e1]; exact .osw0 (by omega)
        · rw [if_neg hc, Option.map_some, addr_add]
          refine .osw hb (by omega) (by omega) ?_
          have : (l.getD 0).toNat * i.size + (c - (l.getD 0).toNat) * i.size ≤ c * i.size := by rw [← Nat.add_mul]; exact Nat.mul_le_mul_right _ (by omega)
          omega
    | _ => exact hk.elim
  · have ht := tyOf_arr he
    rw [he] at hk
    cases dx with
    | ptr id off =>
      obtain ⟨rfl, h0, h1, h2, hk⟩ := hk
      obtain ⟨c, hc, hfit, hmx, hk⟩ := lkoW_ok hk
      have hrun := run_sliceBounds (P := P) (isS := false) (cap := len) hl hh hm h0 h1 h2 (Nat.le_refl _) (fun x hx => by cases hx)
      cases hx with
      | ro hx => cases hx
      | @ptr _ _ b hb =>
        refine ⟨_, _, run_sliceAt_arr ht hi hrun, hk, ?_⟩
        obtain ⟨arr, Tb, fz, q1, q2, q3, _⟩ := own_cells hs hc hb
        simp only [Option.getD_none, Int.toNat_natCast]
        by_cases hcl : len = (l.getD 0).toNat
        · have e1 : (h.getD (len : Int)).toNat - (l.getD 0).toNat = 0 := by omega
          rw [if_pos hcl, e1]; exact .osw0 (by omega)
        · rw [if_neg hcl, addr_add]
          refine .osw hb (by omega) (by omega) ?_
          have : (l.getD 0).toNat * i.size + (len - (l.getD 0).toNat) * i.size ≤ len * i.size := by rw [← Nat.add_mul]; exact Nat.mul_le_mul_right _ (by omega)
          omega
    | rop cs off =>
      obtain ⟨rfl, h0, h1, h2, hfit, hmx, hk⟩ := hk
      have hrun := run_sliceBounds (P := P) (isS := false) (cap := len) hl hh hm h0 h1 h2 (Nat.le_refl _) (fun x hx => by cases hx)
      cases hx with | ro hx => cases hx with
      | @rop b base _ _ g hb hc hd =>
        refine ⟨_, _, run_sliceAt_arr ht hi hrun, hk, .ro ?_⟩
        simp only [Option.getD_none, Int.toNat_natCast]
        have := (rep_part (w := w) (F := FSx φ S.own w) (a := ⟨b, base + off, none⟩) (n := len) (sz := i.size) (c := len - (l.getD 0).toNat) (l := (l.getD 0).toNat) (h := (h.getD (len : Int)).toNat) (cs := (cs.drop off).take (len * i.size)) (fun j => g (off + j)) rfl hb
          (fun j hj => by have := hc (off + j) (by omega); rwa [show base + (off + j) = base + off + j by omega] at this)
          (fun j d hj => by
            rw [List.getElem?_take] at hj
            split at hj
            · rw [List.getElem?_drop] at hj; exact hd _ d hj
            · cases hj) (by simp; omega) (by omega) (by omega)
          (p := if len = (l.getD 0).toNat then ⟨b, base + off, none⟩ else (⟨b, base + off, none⟩ : Addr).add ((l.getD 0).toNat * i.size)) (by
            split
            · exact ⟨rfl, rfl, .inl (by omega)⟩
            · rw [addr_add]; exact ⟨rfl, rfl, .inr rfl⟩) (by omega) (by omega)).1
        have e : (((cs.drop off).take (len * i.size)).drop ((l.getD 0).toNat * i.size)).take (((h.getD (len : Int)).toNat - (l.getD 0).toNat) * i.size) = (cs.drop (off + (l.getD 0).toNat * i.size)).take (((h.getD (len : Int)).toNat - (l.getD 0).toNat) * i.size) := by
          rw [List.drop_take, List.take_take, List.drop_drop, Nat.min_eq_left]
          have : (l.getD 0).toNat * i.size + ((h.getD (len : Int)).toNat - (l.getD 0).toNat) * i.size ≤ len * i.size := by rw [← Nat.add_mul]; exact Nat.mul_le_mul_right _ (by omega)
          omega
        rw [e] at this
        exact this
    | _ => exact hk.elim
  · have ht := tyOf_str he
    rw [he] at hk
    cases dx with
    | str s =>
      obtain ⟨rfl, h0, h1, h2, hk⟩ := hk
      obtain ⟨b, rfl, hb, hlm⟩ := hx.str_inv
      cases mx with
      | some x => exact hm.elim
      | none =>
        have hsz : b.size = s.length := by rw [ba_size, hb]
        have hrun := run_sliceBounds (P := P) (w := w) (isS := false) (len := b.size) (cap := b.size) (m := none) hl hh hm h0 (by rw [hsz]; exact h1) (by rw [hsz]; exact h2) (Nat.le_refl _) (fun x hx => by cases hx)
        refine ⟨_, _, run_sliceAt_str ht hrun, hk, .ro (.str ?_ ?_)⟩
        · rw [extract_list, hb, hsz]
        · rw [List.length_take]; have := List.length_drop (i := (l.getD 0).toNat) (l := s); omega
    | _ => exact hk.elim
end

#print axioms slcW_ok
end Go.Abs
end
