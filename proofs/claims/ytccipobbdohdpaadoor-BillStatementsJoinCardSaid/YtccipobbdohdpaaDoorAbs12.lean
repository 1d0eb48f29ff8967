/-
  AN ABSTRACT WALK, twelfth text: equality of structs and arrays of plain parts.
-/
import Derived.Test.YtccipobbdohdpaaDoorAbs11
import Derived.DeepKeys
namespace Go.Abs
open Go.RowKit (Below)

inductive K where
  | int (k : IntKind) | bool | str
  deriving DecidableEq

def flatK (P : Program) : Nat → TypeId → Option (List K)
  | 0, _ => none
  | d + 1, t =>
    match P.underlying t with
    | some (.int k) => some [.int k]
    | some .bool => some [.bool]
    | some .string => some [.str]
    | some (.array n e) => (flatK P d e).bind fun ks => if ks.length = P.cellsOf e ∧ P.cellsOf t = n * P.cellsOf e then some (List.replicate n ks).flatten else none
    | some (.struct fs) => (fs.toList.foldl (fun acc f => acc.bind fun ks => (flatK P d f.type).bind fun k => if f.offset = ks.length ∧ P.cellsOf f.type = k.length then some (ks ++ k) else none) (some [])).bind fun ks => if P.cellsOf t = ks.length then some ks else none
    | _ => none

inductive Mt : K → Value → Lit → Prop
  | int {k : IntKind} {n : Int} : (Lit.int k n).wf = true → Mt (.int k) (.int k n) (.int k n)
  | bool {b : Bool} : Mt .bool (.bool b) (.bool b)
  | str {s : ByteArray} : s.size ≤ maxLen → Mt .str (.string s) (.string s.data.toList)
inductive M3 : List K → List Value → List Lit → Prop
  | nil : M3 [] [] []
  | cons {k : K} {v : Value} {l : Lit} {ks : List K} {vs : List Value} {ls : List Lit} : Mt k v l → M3 ks vs ls → M3 (k :: ks) (v :: vs) (l :: ls)
theorem M3.len {ks : List K} {vs : List Value} {ls : List Lit} (h : M3 ks vs ls) : vs.length = ks.length ∧ ls.length = ks.length := by
  induction h with
  | nil => exact ⟨rfl, rfl⟩
  | cons _ _ ih => simp [ih]
theorem M3.drop {ks : List K} {vs : List Value} {ls : List Lit} (h : M3 ks vs ls) : ∀ n, M3 (ks.drop n) (vs.drop n) (ls.drop n) := by
  induction h with
  | nil => intro n; simpa using M3.nil
  | cons a h ih => intro n; cases n with
    | zero => exact .cons a h
    | succ n => simpa using ih n
theorem M3.take {ks : List K} {vs : List Value} {ls : List Lit} (h : M3 ks vs ls) : ∀ n, M3 (ks.take n) (vs.take n) (ls.take n) := by
  induction h with
  | nil => intro n; simpa using M3.nil
  | cons a h ih => intro n; cases n with
    | zero => exact .nil
    | succ n => simpa using M3.cons a (ih n)

theorem keyLits_flat {P : Program} : ∀ (d : Nat) (t : TypeId) (ks : List K), flatK P d t = some ks → (P.keyTypeAt d t = true) → ∀ vs ls, M3 ks vs ls → P.keyLits d t vs = some ls
  | 0, _, _, h, _, _, _, _ => by simp [flatK] at h
  | d + 1, t, ks, h, hk, vs, ls, hm => by
    simp only [flatK] at h
    split at h
    · rename_i k hu; cases h
      cases hm with | cons a b => cases b; cases a with | int hw => simp [Program.keyLits, hu, hw]
    · rename_i hu; cases h
      cases hm with | cons a b => cases b; cases a; simp [Program.keyLits, hu]
    · rename_i hu; cases h
      cases hm with | cons a b => cases b; cases a with | str hw => simp [Program.keyLits, hu, hw]
    · rename_i n e hu
      simp only [Option.bind_eq_some_iff] at h
      obtain ⟨ks', hks', h⟩ := h
      split at h
      · rename_i hl
        cases h
        simp only [Program.keyTypeAt, hu] at hk
        have hlen := hm.len
        have hfl : ∀ m, (List.replicate m ks').flatten.length = m * ks'.length := by
          intro m; induction m with
          | zero => simp
          | succ m ih => rw [List.replicate_succ, List.flatten_cons, List.length_append, ih, Nat.succ_mul]; omega
        have hget : ∀ m i, i < m → ((List.replicate m ks').flatten.drop (i * ks'.length)).take ks'.length = ks' := by
          intro m; induction m with
          | zero => intro i hi; omega
          | succ m ih =>
            intro i hi
            rw [List.replicate_succ, List.flatten_cons]
            cases i with
            | zero => simp
            | succ i => rw [show (i + 1) * ks'.length = ks'.length + i * ks'.length by rw [Nat.succ_mul]; omega, ← List.drop_drop, List.drop_left]; exact ih i (by omega)
        have hmap : ∀ (is : List Nat), (∀ i ∈ is, i < n) → (is.mapM fun i => P.keyLits d e ((vs.drop (i * P.cellsOf e)).take (P.cellsOf e))) = some (is.map fun i => (ls.drop (i * P.cellsOf e)).take (P.cellsOf e)) := by
          intro is
          induction is with
          | nil => intro _; rfl
          | cons i is ih =>
            intro hi
            have h1 : P.keyLits d e ((vs.drop (i * P.cellsOf e)).take (P.cellsOf e)) = some ((ls.drop (i * P.cellsOf e)).take (P.cellsOf e)) := by
              refine keyLits_flat d e ks' hks' hk _ _ ?_
              have := (hm.drop (i * ks'.length)).take ks'.length
              rw [hget n i (hi i (by simp))] at this
              rw [← hl.1]; exact this
            rw [List.mapM_cons, h1, ih (fun j hj => hi j (by simp [hj]))]
            rfl
        have hflat : ((List.range n).map fun i => (ls.drop (i * P.cellsOf e)).take (P.cellsOf e)).flatten = ls := by
          have hls : ls.length = n * P.cellsOf e := by rw [hlen.2, hfl, hl.1]
          have key : ∀ m, m ≤ n → ((List.range m).map fun i => (ls.drop (i * P.cellsOf e)).take (P.cellsOf e)).flatten = ls.take (m * P.cellsOf e) := by
            intro m; induction m with
            | zero => intro _; simp
            | succ m ih =>
              intro hmn
              rw [List.range_succ, List.map_append, List.flatten_append, ih (by omega), Nat.succ_mul, List.take_add]
              simp
          rw [key n (Nat.le_refl _), List.take_of_length_le (by omega)]
        simp only [Program.keyLits, hu]
        rw [if_pos (by rw [hlen.1, hfl, hl.2, hl.1]), hmap (List.range n) (fun i hi => by simpa using hi)]
        simp [hflat]
      · cases h
    · rename_i fs hu
      simp only [Option.bind_eq_some_iff] at h
      obtain ⟨ks', hks', h⟩ := h
      split at h
      · rename_i hl
        cases h
        simp only [Program.keyTypeAt, hu, Bool.and_eq_true] at hk
        obtain ⟨⟨hk, _⟩, _⟩ := hk
        have hall : ∀ f ∈ fs.toList, f.name ≠ "_" ∧ P.keyTypeAt d f.type = true := by
          intro f hf
          have := Array.all_eq_true.1 hk
          obtain ⟨i, hi, rfl⟩ := List.getElem_of_mem hf
          have := this i (by simpa using hi)
          simpa using this
        have hnone : ∀ (l : List Field), l.foldl (fun acc f => acc.bind fun ks => (flatK P d f.type).bind fun k => if f.offset = ks.length ∧ P.cellsOf f.type = k.length then some (ks ++ k) else none) none = none := by
          intro l; induction l with
          | nil => rfl
          | cons f l ih => rw [List.foldl_cons]; exact ih
        have key : ∀ (l : List Field) (a : List K), (∀ f ∈ l, f.name ≠ "_" ∧ P.keyTypeAt d f.type = true) → l.foldl (fun acc f => acc.bind fun ks => (flatK P d f.type).bind fun k => if f.offset = ks.length ∧ P.cellsOf f.type = k.length then some (ks ++ k) else none) (some a) = some ks →
            a.length ≤ ks.length ∧ (l.mapM fun f => P.keyLits d f.type ((vs.drop f.offset).take (P.cellsOf f.type))) = some (l.map fun f => (ls.drop f.offset).take (P.cellsOf f.type)) ∧ (l.map fun f => (ls.drop f.offset).take (P.cellsOf f.type)).flatten = ls.drop a.length ∧ a = ks.take a.length := by
          intro l
          induction l with
          | nil =>
            intro a _ h
            simp only [List.foldl_nil, Option.some.injEq] at h
            subst h
            refine ⟨Nat.le_refl _, rfl, ?_, by simp⟩
            rw [List.drop_of_length_le (by rw [hm.len.2]; exact Nat.le_refl _)]; rfl
          | cons f l ih =>
            intro a hl h
            rw [List.foldl_cons] at h
            simp only [Option.bind_some] at h
            cases hf : flatK P d f.type with
            | none => rw [hf, Option.bind_none, hnone] at h; cases h
            | some k =>
              rw [hf, Option.bind_some] at h
              split at h
              · rename_i hcond
                obtain ⟨i1, i2, i3, i4⟩ := ih (a ++ k) (fun g hg => hl g (by simp [hg])) h
                rw [List.length_append] at i1 i3 i4
                have hkk : (ks.drop a.length).take k.length = k := by
                  have : k = ((ks.take (a.length + k.length)).drop a.length) := by rw [← i4]; simp
                  rw [List.drop_take, show a.length + k.length - a.length = k.length by omega] at this
                  exact this.symm
                have h1 : P.keyLits d f.type ((vs.drop f.offset).take (P.cellsOf f.type)) = some ((ls.drop f.offset).take (P.cellsOf f.type)) := by
                  refine keyLits_flat d f.type k hf (hl f (by simp)).2 _ _ ?_
                  have := (hm.drop f.offset).take (P.cellsOf f.type)
                  rw [hcond.1, hcond.2, hkk] at this
                  rw [hcond.1, hcond.2]; exact this
                refine ⟨by omega, ?_, ?_, ?_⟩
                · rw [List.mapM_cons, h1, i2]; rfl
                · rw [List.map_cons, List.flatten_cons, i3, hcond.1, hcond.2, ← List.drop_drop, List.take_append_drop]
                · have := congrArg (List.take a.length) i4
                  rw [List.take_left, List.take_take, Nat.min_eq_left (by omega)] at this
                  exact this
              · rw [hnone] at h; cases h
        obtain ⟨_, h2, h3, _⟩ := key fs.toList [] hall hks'
        simp only [List.length_nil, List.drop_zero] at h3
        have hname : (fs.all fun x => x.name != "_") = true := by
          rw [Array.all_eq_true]
          intro i hi
          have := (hall fs[i] (by simp)).1
          simpa using this
        simp only [Program.keyLits, hu]
        rw [if_pos ⟨by rw [hm.len.1, hl], hname⟩, h2]
        simp [h3]
      · cases h
    · cases h

def kdOf : D → Option K
  | .int k _ => some (.int k)
  | .bool _ => some .bool
  | .str _ => some .str
  | _ => none
def litOf : D → Lit
  | .int k n => .int k n
  | .bool b => .bool b
  | .str s => .string s
  | _ => .bool false
def kdM (cs : List D) (ks : List K) : Prop := cs.map kdOf = ks.map some
theorem kdM_cons (c : D) (cs : List D) (k : K) (ks : List K) : kdM (c :: cs) (k :: ks) = (kdOf c = some k ∧ kdM cs ks) := by simp [kdM]
theorem kdM_bytes (bs : List UInt8) (n : Nat) : kdM (bs.map bD) (List.replicate n (.int .u8)) = (bs.length = n) := by
  apply propext
  unfold kdM
  rw [List.map_map, List.map_replicate]
  constructor
  · intro h; have := congrArg List.length h; simpa using this
  · rintro rfl
    apply List.ext_getElem?
    intro i
    simp only [List.getElem?_map, List.getElem?_replicate]
    by_cases hi : i < bs.length
    · simp [hi, kdOf, bD]
    · simp [hi]

theorem mt_of {w : World} {F : Nat → Prop} {v : Value} {c : D} {k : K} (h : RepR w F v c) (hk : kdOf c = some k) : Mt k v (litOf c) := by
  cases h <;> simp only [kdOf, Option.some.injEq, reduceCtorEq] at hk
  · rename_i a b; subst hk; exact .int (by simp [Lit.wf, a, b])
  · subst hk; exact .bool
  · rename_i b s hb hl; subst hk; subst hb; exact .str (by rw [ba_size]; exact hl)

theorem m3_of {w : World} {F : Nat → Prop} : ∀ {ks : List K} {cs : List D} {vs : List Value}, vs.length = cs.length → (∀ (i : Nat) (v : Value) (d : D), vs[i]? = some v → cs[i]? = some d → RepR w F v d) → kdM cs ks → M3 ks vs (cs.map litOf)
  | [], [], [], _, _, _ => .nil
  | [], c :: cs, _, _, _, h => by simp [kdM] at h
  | k :: ks, [], _, _, _, h => by simp [kdM] at h
  | k :: ks, c :: cs, v :: vs, hl, hr, h => by
    rw [kdM_cons] at h
    exact .cons (mt_of (hr 0 v c rfl rfl) h.1) (m3_of (by simpa using hl) (fun i v d hv hd => hr (i + 1) v d (by simpa using hv) (by simpa using hd)) h.2)
  | [], [], v :: vs, hl, _, _ => by simp at hl
  | k :: ks, c :: cs, [], hl, _, _ => by simp at hl

theorem lit_inj : ∀ {ks : List K} {cs ds : List D}, kdM cs ks → kdM ds ks → (cs.map litOf = ds.map litOf ↔ cs = ds)
  | [], [], [], _, _ => by simp
  | [], c :: cs, _, h, _ => by simp [kdM] at h
  | [], [], d :: ds, _, h => by simp [kdM] at h
  | k :: ks, [], _, h, _ => by simp [kdM] at h
  | k :: ks, c :: cs, [], _, h => by simp [kdM] at h
  | k :: ks, c :: cs, d :: ds, hc, hd => by
    rw [kdM_cons] at hc hd
    have h1 : litOf c = litOf d ↔ c = d := by
      obtain ⟨hc, _⟩ := hc; obtain ⟨hd, _⟩ := hd
      cases c <;> simp only [kdOf, Option.some.injEq, reduceCtorEq] at hc <;> cases d <;> simp only [kdOf, Option.some.injEq, reduceCtorEq] at hd <;> subst hc <;> simp_all [litOf]
    simp only [List.map_cons, List.cons.injEq, h1, lit_inj hc.2 hd.2]

def flkW (P : Program) (t : TypeId) (k : List K → Prop) : Prop :=
  match flatK P 8 t with
  | some ks => P.keyTypeAt 8 t = true ∧ P.eqGuardType P.depth t = false ∧ P.cellsOf t = ks.length ∧ (∃ fs, P.underlying t = some (.struct fs) ∨ ∃ n e, P.underlying t = some (.array n e)) ∧ k ks
  | none => False
noncomputable def eqB (cs ds : List D) : Bool := @decide (cs = ds) (Classical.propDecidable _)
theorem eqB_iff (cs ds : List D) : eqB cs ds = true ↔ cs = ds := by simp [eqB]

/-- The cells of a struct's or an array's value that names no own block. -/
def agC (d : D) (k : List D → Prop) : Prop :=
  match d with
  | .agg cs => k cs
  | .oag cs => allP cs ∧ k cs
  | _ => False
theorem agC_ok {w : World} {φ : Loc} {F : Nat → Prop} {v : Value} {d : D} {k : List D → Prop} (hr : Rep φ w F v d) (h : agC d k) : ∃ vs cs, v = .agg vs ∧ vs.size = cs.length ∧ (∀ (i : Nat) (v : Value) (d : D), vs[i]? = some v → cs[i]? = some d → RepR w F v d) ∧ k cs := by
  cases d with
  | agg cs => cases hr with | ro hr => cases hr with | agg a b c => exact ⟨_, _, rfl, a, c, h⟩
  | oag cs =>
    obtain ⟨hp, h⟩ := h
    cases hr with
    | ro hr => cases hr
    | oag a b c => exact ⟨_, _, rfl, a, fun i v d hv hd => (c i v d hv hd).pure (hp d (List.mem_of_getElem? hd)), h⟩
  | _ => exact h.elim

theorem eqA_ok {P : Program} {w : World} {φ : Loc} {F : Nat → Prop} {t : TypeId} {xv yv : Value} {dx dy : D} (hx : Rep φ w F xv dx) (hy : Rep φ w F yv dy) {k : Bool → Prop}
    (h : agC dx fun cs => agC dy fun ds => flkW P t fun ks => kdM cs ks ∧ kdM ds ks ∧ k (eqB cs ds)) (x y : Operand) :
    ∃ b, k b ∧ (do eqGuard .eql t x y xv yv; binOp .eql t xv yv : Sem Value).run P w = .ok (.bool b) w ∧ (do eqGuard .neq t x y xv yv; binOp .neq t xv yv : Sem Value).run P w = .ok (.bool (!b)) w := by
  obtain ⟨xs, cs, rfl, hxl, hxr, h⟩ := agC_ok hx h
  obtain ⟨ys, ds, rfl, hyl, hyr, h⟩ := agC_ok hy h
  unfold flkW at h
  split at h
  · rename_i ks hks
    obtain ⟨hkt, hg, hsz, hsh, hc, hd, hk⟩ := h
    have lenOf : ∀ {cs : List D}, kdM cs ks → cs.length = ks.length := fun h => by have := congrArg List.length h; simpa using this
    have hx3 := keyLits_flat 8 t ks hks hkt xs.toList (cs.map litOf) (m3_of (by simpa using hxl) (fun i v d hv hd => hxr i v d (by simpa using hv) hd) hc)
    have hy3 := keyLits_flat 8 t ks hks hkt ys.toList (ds.map litOf) (m3_of (by simpa using hyl) (fun i v d hv hd => hyr i v d (by simpa using hv) hd) hd)
    have hfx : (Value.agg xs).formed P t = true := by
      have := lenOf hc
      rcases hsh with ⟨fs, hu | ⟨n, e, hu⟩⟩ <;> simp [Value.formed, hu, hsz, hxl, this]
    have hfy : (Value.agg ys).formed P t = true := by
      have := lenOf hd
      rcases hsh with ⟨fs, hu | ⟨n, e, hu⟩⟩ <;> simp [Value.formed, hu, hsz, hyl, this]
    obtain ⟨r, hr, hiff⟩ := run_equalIn_deep (P := P) 9992 8 t hkt w 8 8 (.agg xs) (.agg ys) _ _ hfx hfy hx3 hy3
    have hb : r = eqB cs ds := by
      rw [Bool.eq_iff_iff, eqB_iff, hiff, lit_inj hc hd]
    subst hb
    have hr : (Op.equalIn 10000 t (.agg xs) (.agg ys)).run P w = .ok (eqB cs ds) w := hr
    refine ⟨_, hk, ?_, ?_⟩
    · rw [Sem.run_bind, run_eqGuard_agg w .eql t x y xs ys hg, Result.andThen_ok, run_eql_struct, hr]; rfl
    · rw [Sem.run_bind, run_eqGuard_agg w .neq t x y xs ys hg, Result.andThen_ok, run_neq_struct, hr]; rfl
  · exact h.elim

#print axioms keyLits_flat
#print axioms eqA_ok
end Go.Abs
