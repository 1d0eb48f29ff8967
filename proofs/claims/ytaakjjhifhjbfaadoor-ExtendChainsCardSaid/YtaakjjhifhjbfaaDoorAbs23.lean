/-
  AN ABSTRACT WALK, twentieth text: a contract for a slice serves a full slice, and a nil one.
-/
import Derived.Test.YtaakjjhifhjbfaaDoorAbs19
import Derived.OpenShut
import Derived.ProofKit
import Derived.ChangeOld
import Derived.SizedLaws
import Derived.Below
import Derived.Carry
import Derived.ShutString
section
namespace Go.Abs
open Go.RowKit (Below)

/- What reads as the first reads as the second. -/
mutual
inductive DW : D → D → Prop
  | refl (d : D) : DW d d
  | slx (sz n : Nat) (cs : List D) : DW (.slx sz n cs) (.sl sz n cs)
  | nils (sz : Nat) : DW .nils (.sl sz 0 [])
  | agg {ds ds' : List D} : LW ds' ds → DW (.agg ds') (.agg ds)
inductive LW : List D → List D → Prop
  | nil : LW [] []
  | cons {d d' : D} {r r' : List D} : DW d' d → LW r' r → LW (d' :: r') (d :: r)
end
mutual
theorem DW.rep {w : World} {F : Nat → Prop} : ∀ {d d' : D}, DW d' d → ∀ {v : Value}, RepR w F v d' → RepR w F v d
  | _, _, .refl _, _, hr => hr
  | _, _, .slx sz n cs, _, hr => by
    cases hr with
    | slx0 => exact .sl0 (by simp [maxLen])
    | slx g a b c d e f => exact .sl g a b (Nat.le_refl _) c d e f
  | _, _, .nils sz, _, hr => by cases hr; exact .sl0 (by simp [maxLen])
  | _, _, .agg h, _, hr => by
    have hg := LW.get (w := w) (F := F) h
    cases hr with
    | agg a b c =>
      refine .agg (a.trans hg.1) b fun i v d hv hd => ?_
      obtain ⟨d', h1, h2⟩ := hg.2 i d hd
      exact h2 v (c i v d' hv h1)
theorem LW.get {w : World} {F : Nat → Prop} : ∀ {ds ds' : List D}, LW ds' ds → ds'.length = ds.length ∧ ∀ (i : Nat) (d : D), ds[i]? = some d → ∃ d', ds'[i]? = some d' ∧ ∀ v, RepR w F v d' → RepR w F v d
  | _, _, .nil => ⟨rfl, fun i d h => by simp at h⟩
  | _, _, .cons h1 h2 => by
    have ih := LW.get (w := w) (F := F) h2
    refine ⟨by simp [ih.1], fun i d h => ?_⟩
    cases i with
    | zero => simp at h; subst h; exact ⟨_, rfl, fun v hv => h1.rep hv⟩
    | succ i => obtain ⟨d', q1, q2⟩ := ih.2 i d (by simpa using h); exact ⟨d', by simpa using q1, q2⟩
end
theorem LW.args {w : World} {F : Nat → Prop} {ds ds' : List D} {vs : List Value} (h : LW ds' ds) (ha : FArgs w F vs ds') : FArgs w F vs ds := by
  refine ⟨ha.1.trans (h.get (w := w) (F := F)).1, fun i v d hv hd => ?_⟩
  obtain ⟨d', q1, q2⟩ := (h.get (w := w) (F := F)).2 i d hd
  exact q2 v (ha.2 i v d' hv q1)
theorem Fn.weak {G : Glob} {P : Program} {f : FuncId} {ds ds' : List D} {d : D} (h : Fn G P f ds d) (hw : LW ds' ds) : Fn G P f ds' d :=
  ⟨h.1, fun b0 vs hG hL ha => h.2 b0 vs hG hL (hw.args ha)⟩
theorem FnS.weak {G : Glob} {P : Program} {f : FuncId} {ds ds' : List D} {sz n : Nat} {cs : List D} (h : FnS G P f ds sz n cs) (hw : LW ds' ds) : FnS G P f ds' sz n cs :=
  ⟨h.1, fun b0 vs hG hL ha => h.2 b0 vs hG hL (hw.args ha)⟩
theorem Fn.x1 {G : Glob} {P : Program} {f : FuncId} {sz n : Nat} {cs : List D} {d : D} (h : Fn G P f [.sl sz n cs] d) : Fn G P f [.slx sz n cs] d := h.weak (.cons (.slx _ _ _) .nil)
theorem FnS.x1 {G : Glob} {P : Program} {f : FuncId} {sz n s' n' : Nat} {cs c' : List D} (h : FnS G P f [.sl sz n cs] s' n' c') : FnS G P f [.slx sz n cs] s' n' c' := h.weak (.cons (.slx _ _ _) .nil)
theorem Fn.x2 {G : Glob} {P : Program} {f : FuncId} {sz n : Nat} {cs : List D} {d e : D} (h : Fn G P f [e, .sl sz n cs] d) : Fn G P f [e, .slx sz n cs] d := h.weak (.cons (.refl _) (.cons (.slx _ _ _) .nil))
theorem Fn.inp {G : Glob} {P : Program} {f : FuncId} {ds ds' : List D} {d : D} (h : Fn G P f ds d) (e : ds = ds') : Fn G P f ds' d := e ▸ h
theorem Fn.out {G : Glob} {P : Program} {f : FuncId} {ds : List D} {d d' : D} (h : Fn G P f ds d) (e : d = d') : Fn G P f ds d' := e ▸ h
end Go.Abs
end
section
namespace Go.Abs
open Go.ChangeShapes Go.WideShapes Go.RowKit

/-- A type, as far as the walk tells types apart. -/
inductive C where
  | int (k : IntKind) | byte | bool | str | slice (e : C) | arr (n : Nat) (e : C) | unit | pair (a b : C)

@[reducible] def C.den : C → Type
  | .int _ => Int
  | .byte => UInt8
  | .bool => Bool
  | .str => List UInt8
  | .slice e => List e.den
  | .arr _ e => List e.den
  | .unit => Unit
  | .pair a b => a.den × b.den
def C.sz : C → Nat
  | .arr n e => n * e.sz
  | .unit => 0
  | .pair a b => a.sz + b.sz
  | _ => 1
def C.cells : (c : C) → c.den → List D
  | .int k, n => [.int k n]
  | .byte, b => [bD b]
  | .bool, b => [.bool b]
  | .str, s => [.str s]
  | .slice e, xs => [.sl e.sz xs.length (List.flatMap (C.cells e) xs)]
  | .arr _ e, xs => List.flatMap (C.cells e) xs
  | .unit, _ => []
  | .pair a b, x => C.cells a x.1 ++ C.cells b x.2
def C.arg : (c : C) → c.den → D
  | .int k, n => .int k n
  | .byte, b => bD b
  | .bool, b => .bool b
  | .str, s => .str s
  | .slice e, xs => .sl e.sz xs.length (List.flatMap (C.cells e) xs)
  | .arr n e, xs => .agg (C.cells (.arr n e) xs)
  | .unit, _ => .agg []
  | .pair a b, x => .agg (C.cells (.pair a b) x)
/-- What is known besides of what was read. -/
def C.ok : (c : C) → c.den → Prop
  | .int k, n => inR k n
  | .byte, _ => True
  | .bool, _ => True
  | .str, s => s.length ≤ reachBytes
  | .slice e, xs => xs.length ≤ reachBytes ∧ ∀ x ∈ (xs : List e.den), C.ok e x
  | .arr n e, xs => xs.length = n ∧ ∀ x ∈ (xs : List e.den), C.ok e x
  | .unit, _ => True
  | .pair a b, x => C.ok a x.1 ∧ C.ok b x.2

/-- Does the program's type have this code? The second: do these fields, from this cell on? -/
def C.fits (P : Program) : C → TypeId ⊕ (List Field × Nat) → Bool
  | .int k, .inl t => (match P.underlying t with | some (.int k') => decide (k' = k) | _ => false) && decide (P.cellsOf t = 1)
  | .byte, .inl t => (match P.underlying t with | some (.int .u8) => true | _ => false) && decide (P.cellsOf t = 1)
  | .bool, .inl t => (match P.underlying t with | some .bool => true | _ => false) && decide (P.cellsOf t = 1)
  | .str, .inl t => (match P.underlying t with | some .string => true | _ => false) && decide (P.cellsOf t = 1)
  | .slice e, .inl t => (match P.underlying t with | some (.slice te) => C.fits P e (.inl te) && decide (0 < P.bytesOf te) && decide (0 < e.sz) | _ => false) && decide (P.cellsOf t = 1)
  | .arr n e, .inl t => (match P.underlying t with | some (.array m te) => decide (m = n) && C.fits P e (.inl te) | _ => false) && decide (P.cellsOf t = n * e.sz)
  | .unit, .inl t => (match P.underlying t with | some (.struct fs) => decide (fs.size = 0) | _ => false) && decide (P.cellsOf t = 0)
  | .pair a b, .inl t => (match P.underlying t with
      | some (.struct fs) => (match fs.toList with
        | f :: r => decide (f.offset = 0) && C.fits P a (.inl f.type) && C.fits P b (.inr (r, a.sz))
        | [] => false)
      | _ => false) && decide (P.cellsOf t = a.sz + b.sz)
  | .unit, .inr (fs, _) => fs.isEmpty
  | .pair a b, .inr (f :: r, o) => decide (f.offset = o) && C.fits P a (.inl f.type) && C.fits P b (.inr (r, o + a.sz))
  | _, .inr _ => false

def CR (w : World) (F : Nat → Prop) (vs : List Value) (ds : List D) : Prop :=
  vs.length = ds.length ∧ ∀ (i : Nat) (v : Value) (d : D), vs[i]? = some v → ds[i]? = some d → RepR w F v d ∧ v.oneCell' = true
theorem CR.nil {w : World} {F : Nat → Prop} : CR w F [] [] := ⟨rfl, fun i v d h => by simp at h⟩
theorem CR.one {w : World} {F : Nat → Prop} {v : Value} {d : D} (h : RepR w F v d) (h1 : v.oneCell' = true) : CR w F [v] [d] :=
  ⟨rfl, fun i u e hu he => by
    cases i with
    | zero => simp at hu he; subst hu; subst he; exact ⟨h, h1⟩
    | succ i => simp at hu⟩
theorem CR.app {w : World} {F : Nat → Prop} {v1 v2 : List Value} {d1 d2 : List D} (h1 : CR w F v1 d1) (h2 : CR w F v2 d2) : CR w F (v1 ++ v2) (d1 ++ d2) := by
  refine ⟨by simp [h1.1, h2.1], fun i v d hv hd => ?_⟩
  by_cases hi : i < v1.length
  · rw [List.getElem?_append_left hi] at hv
    rw [List.getElem?_append_left (by rw [← h1.1]; exact hi)] at hd
    exact h1.2 i v d hv hd
  · rw [List.getElem?_append_right (by omega)] at hv
    rw [List.getElem?_append_right (by rw [← h1.1]; omega), ← h1.1] at hd
    exact h2.2 _ v d hv hd

theorem C.len (c : C) : ∀ x : c.den, c.ok x → (c.cells x).length = c.sz := by
  induction c with
  | arr n e ih =>
    intro xs ⟨h1, h2⟩
    have : ∀ l : List e.den, (∀ x ∈ l, C.ok e x) → (List.flatMap (C.cells e) l).length = l.length * e.sz := by
      intro l
      induction l with
      | nil => intro _; simp
      | cons y r ih2 => intro h; rw [List.flatMap_cons, List.length_append, ih y (h y (by simp)), ih2 fun x hx => h x (by simp [hx]), List.length_cons, Nat.add_mul]; omega
    show (List.flatMap (C.cells e) xs).length = n * e.sz
    rw [this xs h2, h1]
  | pair a b iha ihb => intro x ⟨h1, h2⟩; simp only [C.cells, List.length_append, iha _ h1, ihb _ h2, C.sz]
  | _ => intro x h; rfl
theorem C.rows (e : C) (xs : List e.den) (h : ∀ x ∈ xs, C.ok e x) : (List.flatMap (C.cells e) xs).length = xs.length * e.sz := by
  have := C.len (.arr xs.length e) xs ⟨rfl, h⟩
  exact this

/-- Rows of cells, one behind the other. -/
theorem CR.rows {w : World} {F : Nat → Prop} {e : C} {sz : Nat} : ∀ (n : Nat) (vs : List Value), vs.length = n * sz → (∀ i, i < n → ∃ x : e.den, CR w F ((vs.drop (i * sz)).take sz) (e.cells x) ∧ e.ok x) → ∃ xs : List e.den, xs.length = n ∧ CR w F vs (List.flatMap (C.cells e) xs) ∧ ∀ x ∈ xs, e.ok x
  | 0, vs, hl, _ => by
    have : vs = [] := List.eq_nil_of_length_eq_zero (by simpa using hl)
    subst this
    exact ⟨[], rfl, CR.nil, by simp⟩
  | n + 1, vs, hl, h => by
    have hl2 : vs.length = sz + n * sz := by rw [hl, Nat.add_mul]; omega
    obtain ⟨x, hx, hok⟩ := h 0 (by omega)
    obtain ⟨xs, h1, h2, h3⟩ := CR.rows (w := w) (F := F) (e := e) (sz := sz) n (vs.drop sz) (by rw [List.length_drop]; omega) fun i hi => by
      obtain ⟨y, hy⟩ := h (i + 1) (by omega)
      rw [List.drop_drop, show sz + i * sz = (i + 1) * sz by rw [Nat.add_mul]; omega]
      exact ⟨y, hy⟩
    refine ⟨x :: xs, by simp [h1], ?_, fun y hy => (List.mem_cons.1 hy).elim (fun e => e ▸ hok) fun hy => h3 y hy⟩
    have e1 : vs = vs.take sz ++ vs.drop sz := (List.take_append_drop _ _).symm
    rw [e1, List.flatMap_cons]
    rw [Nat.zero_mul, List.drop_zero] at hx
    exact hx.app h2

theorem mapM_some {α β : Type} {f : α → Option β} : ∀ {l : List α} {r : List β}, l.mapM f = some r → r.length = l.length ∧ ∀ (i : Nat) (a : α) (b : β), l[i]? = some a → r[i]? = some b → f a = some b
  | [], r, h => by simp at h; subst h; simp
  | x :: l, r, h => by
    rw [List.mapM_cons] at h
    cases hx : f x with
    | none => simp [hx] at h
    | some y =>
      cases hl : l.mapM f with
      | none => simp [hx, hl] at h
      | some ys =>
        simp [hx, hl] at h
        subst h
        obtain ⟨h1, h2⟩ := mapM_some hl
        refine ⟨by simp [h1], fun i a b ha hb => ?_⟩
        cases i with
        | zero => simp at ha hb; subst ha; subst hb; exact hx
        | succ i => exact h2 i a b (by simpa using ha) (by simpa using hb)

theorem cells_get {w : World} {base n : Nat} {a : Addr} {vs : List Value} (h : w.cells? base a n = some vs) : vs.length = n ∧ ∀ i v, vs[i]? = some v → w.cell? (a.add i) = some v := by
  unfold World.cells? at h
  split at h
  · obtain ⟨h1, h2⟩ := mapM_some h
    rw [List.length_range] at h1
    refine ⟨h1, fun i v hv => h2 i i v ?_ hv⟩
    have : i < vs.length := (List.getElem?_eq_some_iff.1 hv).1
    rw [List.getElem?_range (by omega)]
  · cases h

def small {H : Type} (P : Program) (t : TypeId) (d : DataW H) : Prop := ∀ n ∈ d.weights P t, n ≤ reachBytes
theorem mem_weightsAll {H : Type} {P : Program} {e : TypeId} : ∀ {ds : List (DataW H)} {d : DataW H}, d ∈ ds → ∀ n ∈ d.weights P e, n ∈ DataW.weightsAll P e ds
  | d0 :: r, d, h, n, hn => by
    rw [DataW.weightsAll, List.mem_append]
    rcases List.mem_cons.1 h with rfl | h
    · exact .inl hn
    · exact .inr (mem_weightsAll h n hn)

theorem fits_sz {P : Program} {c : C} {t : TypeId} (h : c.fits P (.inl t) = true) : P.cellsOf t = c.sz := by
  cases c <;> simp [C.fits] at h <;> exact h.2

section
variable {H : Type} {enc : TypeId × Value → H} {P : Program} {w : World}

theorem cell_spot {a : Addr} {v : Value} (h : w.cell? a = some v) : a.spot = none ∧ a.block < w.heap.size := by
  unfold World.cell? at h
  split at h
  · rename_i hb
    refine ⟨?_, (Array.getElem?_eq_some_iff.1 hb).1⟩
    cases hs : a.spot with
    | none => rfl
    | some s => simp [hs] at h
  · cases h

theorem bind_some {α β : Type} {x : Option α} {f : α → Option β} {y : β} (h : x.bind f = some y) : ∃ z, x = some z ∧ f z = some y := by
  cases x with
  | none => cases h
  | some z => exact ⟨z, rfl, h⟩

/-- A slice whose elements are read, each by its code. -/
theorem read_slice {e : C} {te : TypeId} {n : Nat} (hsz : P.cellsOf te = e.sz) (hpos : 0 < e.sz) (a : Addr) (len cap : Nat) (hlc : len ≤ cap) (hcap : cap ≤ maxLen)
    (h : ∀ i, i < len → ∃ y vs, w.cells? 0 (a.add (i * P.cellsOf te)) (P.cellsOf te) = some vs ∧ DataW.trod enc P w 0 (fun _ => true) true n te vs = some y ∧ ∃ x : e.den, CR w (fun b => b < w.heap.size) vs (e.cells x) ∧ e.ok x) :
    ∃ xs : List e.den, xs.length = len ∧ (∀ x ∈ xs, e.ok x) ∧ RepR w (fun b => b < w.heap.size) (.slice (some a) len cap) (.sl e.sz xs.length (List.flatMap (C.cells e) xs)) := by
  by_cases h0 : len = 0
  · subst h0
    exact ⟨[], rfl, by simp, .sl0 hcap⟩
  · have hlen : 0 < len := by omega
    have hs : a.spot = none ∧ a.block < w.heap.size := by
      obtain ⟨y, vs, h1, _⟩ := h 0 hlen
      rw [Nat.zero_mul] at h1
      obtain ⟨l1, l2⟩ := cells_get h1
      obtain ⟨v, hv⟩ : ∃ v, vs[0]? = some v := ⟨vs[0]'(by omega), by simp⟩
      exact cell_spot (l2 0 v hv)
    let g : Nat → Value := fun j => (w.cell? ⟨a.block, a.off + j, none⟩).getD undef
    have hrow : ∀ i, i < len → ∃ vs, vs.length = e.sz ∧ (∀ r v, vs[r]? = some v → w.cell? ⟨a.block, a.off + (i * e.sz + r), none⟩ = some v) ∧ ∃ x : e.den, CR w (fun b => b < w.heap.size) vs (e.cells x) ∧ e.ok x := by
      intro i hi
      obtain ⟨y, vs, h1, _, h3⟩ := h i hi
      rw [hsz] at h1
      obtain ⟨l1, l2⟩ := cells_get h1
      refine ⟨vs, l1, fun r v hv => ?_, h3⟩
      have := l2 r v hv
      rw [addr_add' hs.1] at this
      rw [addr_add' (by rfl)] at this
      simpa [Nat.add_assoc] using this
    let vs : List Value := (List.range (len * e.sz)).map g
    have hvl : vs.length = len * e.sz := by simp [vs]
    have hval : ∀ i, i < len → ∃ x : e.den, CR w (fun b => b < w.heap.size) ((vs.drop (i * e.sz)).take e.sz) (e.cells x) ∧ e.ok x := by
      intro i hi
      obtain ⟨us, u1, u2, x, hx, hok⟩ := hrow i hi
      have hle : i * e.sz + e.sz ≤ len * e.sz := by
        have := Nat.mul_le_mul_right e.sz (show i + 1 ≤ len by omega)
        rw [Nat.add_mul] at this; omega
      have : (vs.drop (i * e.sz)).take e.sz = us := by
        apply List.ext_getElem?
        intro r
        by_cases hr : r < e.sz
        · obtain ⟨v, hv⟩ : ∃ v, us[r]? = some v := ⟨us[r]'(by omega), by simp⟩
          rw [List.getElem?_take_of_lt hr, List.getElem?_drop, hv]
          simp only [vs, List.getElem?_map]
          rw [List.getElem?_range (by omega)]
          simp only [Option.map_some, g, u2 r v hv, Option.getD_some]
        · rw [List.getElem?_eq_none (by rw [List.length_take]; omega), List.getElem?_eq_none (by omega)]
      rw [this]
      exact ⟨x, hx, hok⟩
    obtain ⟨xs, x1, x2, x3⟩ := CR.rows len vs hvl hval
    refine ⟨xs, x1, x3, ?_⟩
    rw [x1]
    refine .sl g hs.1 hs.2 hlc hcap (by rw [C.rows e xs x3, x1]) (fun j hj => ?_) fun j d hd => ?_
    · have hi : j / e.sz < len := (Nat.div_lt_iff_lt_mul hpos).2 hj
      obtain ⟨us, u1, u2, x, hx, hok⟩ := hrow (j / e.sz) hi
      have hr : j % e.sz < e.sz := Nat.mod_lt _ hpos
      obtain ⟨v, hv⟩ : ∃ v, us[j % e.sz]? = some v := ⟨us[j % e.sz]'(by omega), by simp⟩
      have hc := u2 _ v hv
      have hj2 : j / e.sz * e.sz + j % e.sz = j := Nat.div_add_mod' j e.sz
      rw [hj2] at hc
      have hgj : g j = v := by simp only [g, hc, Option.getD_some]
      rw [hgj]
      refine ⟨hc, ?_⟩
      have hxl := hx.1
      obtain ⟨d, hd⟩ : ∃ d, (e.cells x)[j % e.sz]? = some d := ⟨(e.cells x)[j % e.sz]'(by omega), by simp⟩
      exact (hx.2 _ v d hv hd).2
    · have hj : j < vs.length := by rw [x2.1]; exact (List.getElem?_eq_some_iff.1 hd).1
      have hv : vs[j]? = some (g j) := by simp only [vs, List.getElem?_map]; rw [List.getElem?_range (by omega)]; rfl
      exact (x2.2 j (g j) d hv hd).1

theorem read_ok (c : C) :
    (∀ (t : TypeId) (fuel : Nat) (cs : List Value) (y : DataW H × List MemPlace), c.fits P (.inl t) = true → DataW.trod enc P w 0 (fun _ => true) true fuel t cs = some y → small P t y.1 →
      ∃ x : c.den, CR w (fun b => b < w.heap.size) cs (c.cells x) ∧ c.ok x) ∧
    (∀ (fs : List Field) (o fuel : Nat) (cs : List Value) (ys : List (DataW H × List MemPlace)), c.fits P (.inr (fs, o)) = true → ys.length = fs.length →
      (∀ (i : Nat) (f : Field), fs[i]? = some f → DataW.trod enc P w 0 (fun _ => true) true fuel f.type ((cs.drop f.offset).take (P.cellsOf f.type)) = ys[i]?) →
      (∀ n ∈ DataW.weightsEach P (fs.map (·.type)) (ys.map (·.1)), n ≤ reachBytes) → o + c.sz ≤ cs.length → ∃ x : c.den, CR w (fun b => b < w.heap.size) ((cs.drop o).take c.sz) (c.cells x) ∧ c.ok x) := by
  induction c with
  | int k =>
    refine ⟨fun t fuel cs y hf h _ => ?_, fun fs o fuel cs ys hf => by simp [C.fits] at hf⟩
    simp only [C.fits, Bool.and_eq_true] at hf
    obtain ⟨hf, _⟩ := hf
    split at hf
    · rename_i k' hu
      obtain rfl : k' = k := by simpa using hf
      obtain ⟨n, rfl, rfl, hw⟩ := DataW.trod_int hu h
      have hb : k'.min ≤ n ∧ n ≤ k'.max := by simpa [Lit.wf] using hw
      exact ⟨n, CR.one (.int hb.1 hb.2) rfl, hb⟩
    · cases hf
  | byte =>
    refine ⟨fun t fuel cs y hf h _ => ?_, fun fs o fuel cs ys hf => by simp [C.fits] at hf⟩
    simp only [C.fits, Bool.and_eq_true] at hf
    obtain ⟨hf, _⟩ := hf
    split at hf
    · rename_i hu
      obtain ⟨n, rfl, rfl, hw⟩ := DataW.trod_int hu h
      have hb : 0 ≤ n ∧ n ≤ 255 := by
        have : IntKind.u8.min ≤ n ∧ n ≤ IntKind.u8.max := by simpa [Lit.wf] using hw
        exact this
      refine ⟨n.toNat.toUInt8, ?_, trivial⟩
      have e : bD n.toNat.toUInt8 = .int .u8 n := by
        unfold bD
        have : n.toNat.toUInt8.toNat = n.toNat := by
          simp [Nat.toUInt8, UInt8.toNat_ofNat']; omega
        rw [this]; congr 1; omega
      show CR w _ [.int .u8 n] [bD n.toNat.toUInt8]
      rw [e]
      exact CR.one (.int hb.1 hb.2) rfl
    · cases hf
  | bool =>
    refine ⟨fun t fuel cs y hf h _ => ?_, fun fs o fuel cs ys hf => by simp [C.fits] at hf⟩
    simp only [C.fits, Bool.and_eq_true] at hf
    obtain ⟨hf, _⟩ := hf
    split at hf
    · rename_i hu
      obtain ⟨n, rfl, rfl⟩ := DataW.trod_bool hu h
      exact ⟨n, CR.one .bool rfl, trivial⟩
    · cases hf
  | str =>
    refine ⟨fun t fuel cs y hf h hs => ?_, fun fs o fuel cs ys hf => by simp [C.fits] at hf⟩
    simp only [C.fits, Bool.and_eq_true] at hf
    obtain ⟨hf, _⟩ := hf
    split at hf
    · rename_i hu
      obtain ⟨s, rfl, rfl, hl⟩ := DataW.trod_string hu h
      refine ⟨s.data.toList, CR.one (.str rfl (by rw [← ba_size]; exact hl)) rfl, ?_⟩
      exact hs _ (by simp [DataW.weights])
    · cases hf
  | slice e ih =>
    refine ⟨fun t fuel cs y hf h hs => ?_, fun fs o fuel cs ys hf => by simp [C.fits] at hf⟩
    simp only [C.fits, Bool.and_eq_true] at hf
    obtain ⟨hf, _⟩ := hf
    split at hf
    · rename_i te hu
      simp only [Bool.and_eq_true, decide_eq_true_eq] at hf
      obtain ⟨⟨hfe, hby⟩, hpos⟩ := hf
      rcases DataW.trod_slice hu h with ⟨rfl, rfl⟩ | ⟨a, len, cap, elems, rest, n, _, rfl, rfl, _, hlc, hcap, hel, hget, _, _⟩
      · exact ⟨[], CR.one (.sl0 (by simp)) rfl, by simp [C.ok]⟩
      · have hw : (elems.length + rest.length) * P.bytesOf te ≤ reachBytes := hs _ (by simp [DataW.weights, hu])
        have hlen : len ≤ reachBytes := by
          have : elems.length ≤ (elems.length + rest.length) * P.bytesOf te := Nat.le_trans (Nat.le_add_right _ _) (Nat.le_mul_of_pos_right _ hby)
          omega
        obtain ⟨xs, x1, x2, x3⟩ := read_slice (enc := enc) (P := P) (w := w) (n := n) (fits_sz hfe) hpos a len cap hlc hcap fun i hi => by
          have hg := hget i hi
          have hi2 : i < elems.length := by omega
          rw [List.getElem?_eq_getElem hi2] at hg
          obtain ⟨vs, h1, h2⟩ := bind_some hg
          refine ⟨elems[i], vs, h1, h2, ih.1 te n vs elems[i] hfe h2 fun m hm => hs m ?_⟩
          rw [DataW.weights, hu]
          simp only [List.mem_cons, List.mem_append]
          exact .inr (.inl (mem_weightsAll (List.mem_map.2 ⟨elems[i], List.getElem_mem hi2, rfl⟩) m hm))
        exact ⟨xs, CR.one x3 rfl, by show xs.length ≤ reachBytes; omega, x2⟩
    · cases hf
  | arr n e ih =>
    refine ⟨fun t fuel cs y hf h hs => ?_, fun fs o fuel cs ys hf => by simp [C.fits] at hf⟩
    simp only [C.fits, Bool.and_eq_true, decide_eq_true_eq] at hf
    obtain ⟨hf, hct⟩ := hf
    split at hf
    · rename_i m te hu
      simp only [Bool.and_eq_true, decide_eq_true_eq] at hf
      obtain ⟨rfl, hfe⟩ := hf
      obtain ⟨xs, k, _, rfl, hcl, hxl, hget⟩ := DataW.trod_array hu h
      have hse := fits_sz hfe
      obtain ⟨ys, y1, y2, y3⟩ := CR.rows (w := w) (F := fun b => b < w.heap.size) (e := e) (sz := e.sz) m cs (by rw [hcl, hct]) fun i hi => by
        have hg := hget i hi
        have hi2 : i < xs.length := by omega
        rw [List.getElem?_eq_getElem hi2, hse] at hg
        refine ih.1 te k _ xs[i] hfe hg fun q hq => hs q ?_
        rw [DataW.weights, hu]
        exact mem_weightsAll (List.mem_map.2 ⟨xs[i], List.getElem_mem hi2, rfl⟩) q hq
      exact ⟨ys, y2, y1, y3⟩
    · cases hf
  | unit =>
    refine ⟨fun t fuel cs y hf h hs => ?_, fun fs o fuel cs ys hf _ _ _ _ => ⟨(), ?_, trivial⟩⟩
    · simp only [C.fits, Bool.and_eq_true, decide_eq_true_eq] at hf
      obtain ⟨hf, hct⟩ := hf
      split at hf
      · rename_i fs hu
        obtain ⟨xs, k, _, rfl, hcl, _⟩ := DataW.trod_struct hu h
        have : cs = [] := List.eq_nil_of_length_eq_zero (by omega)
        subst this
        exact ⟨(), CR.nil, trivial⟩
      · cases hf
    · simp only [C.sz, List.take_zero]; exact CR.nil
  | pair a b iha ihb =>
    have fields : ∀ (f : Field) (r : List Field) (o fuel : Nat) (cs : List Value) (ys : List (DataW H × List MemPlace)), f.offset = o → a.fits P (.inl f.type) = true → b.fits P (.inr (r, o + a.sz)) = true → ys.length = (f :: r).length →
        (∀ (i : Nat) (g : Field), (f :: r)[i]? = some g → DataW.trod enc P w 0 (fun _ => true) true fuel g.type ((cs.drop g.offset).take (P.cellsOf g.type)) = ys[i]?) →
        (∀ n ∈ DataW.weightsEach P ((f :: r).map (·.type)) (ys.map (·.1)), n ≤ reachBytes) → o + (a.sz + b.sz) ≤ cs.length →
        ∃ x : (C.pair a b).den, CR w (fun b => b < w.heap.size) ((cs.drop o).take (a.sz + b.sz)) ((C.pair a b).cells x) ∧ (C.pair a b).ok x := by
      intro f r o fuel cs ys ho hfa hfb hyl hget hw hle
      obtain ⟨y, ys', rfl⟩ : ∃ y ys', ys = y :: ys' := by cases ys with | nil => simp at hyl | cons y ys' => exact ⟨y, ys', rfl⟩
      have h0 := hget 0 f rfl
      simp only [List.getElem?_cons_zero] at h0
      rw [ho, fits_sz hfa] at h0
      obtain ⟨x, hx, hox⟩ := iha.1 f.type fuel _ y hfa h0 fun n hn => hw n (by simp only [List.map_cons, DataW.weightsEach, List.mem_append]; exact .inl hn)
      obtain ⟨z, hz, hoz⟩ := ihb.2 r (o + a.sz) fuel cs ys' hfb (by simpa using hyl) (fun i g hg => by have := hget (i + 1) g (by simpa using hg); simpa using this)
        (fun n hn => hw n (by simp only [List.map_cons, DataW.weightsEach, List.mem_append]; exact .inr hn)) (by omega)
      refine ⟨(x, z), ?_, hox, hoz⟩
      have e : (cs.drop o).take (a.sz + b.sz) = (cs.drop o).take a.sz ++ (cs.drop (o + a.sz)).take b.sz := by rw [List.take_add, List.drop_drop]
      rw [e]
      exact hx.app hz
    refine ⟨fun t fuel cs y hf h hs => ?_, fun fs o fuel cs ys hf hyl hget hw hle => ?_⟩
    · simp only [C.fits, Bool.and_eq_true, decide_eq_true_eq] at hf
      obtain ⟨hf, hct⟩ := hf
      split at hf
      · rename_i fs hu
        split at hf
        · rename_i f r hfs
          simp only [Bool.and_eq_true, decide_eq_true_eq] at hf
          obtain ⟨⟨ho, hfa⟩, hfb⟩ := hf
          obtain ⟨xs, k, _, rfl, hcl, hxl, hget⟩ := DataW.trod_struct hu h
          have hsl : (f :: r).length = fs.size := by rw [← hfs]; simp
          obtain ⟨x, hx, hox⟩ := fields f r 0 k cs xs ho hfa (by rw [Nat.zero_add]; exact hfb) (by rw [hxl, hsl]) (fun i g hg => hget i g (by rw [← hfs] at hg; simpa using hg))
            (fun n hn => hs n (by rw [DataW.weights, hu]; show n ∈ DataW.weightsEach P (fs.toList.map (·.type)) _; rw [hfs]; exact hn)) (by rw [hcl, hct]; omega)
          refine ⟨x, ?_, hox⟩
          rw [List.drop_zero, List.take_of_length_le (by rw [hcl, hct]; omega)] at hx
          exact hx
        · cases hf
      · cases hf
    · cases fs with
      | nil => simp [C.fits] at hf
      | cons f r =>
        simp only [C.fits, Bool.and_eq_true, decide_eq_true_eq] at hf
        obtain ⟨⟨ho, hfa⟩, hfb⟩ := hf
        exact fields f r o fuel cs ys ho hfa hfb hyl hget hw hle
end
#print axioms read_ok
end Go.Abs
end
section
namespace Go.Abs
open Go.ChangeShapes Go.WideShapes Go.RowKit Go.ChangeAt

@[reducible] def denL : List C → Type
  | [] => Unit
  | c :: cs => c.den × denL cs
def argsL : (cs : List C) → denL cs → List D
  | [], _ => []
  | c :: cs, x => c.arg x.1 :: argsL cs x.2
def okL : (cs : List C) → denL cs → Prop
  | [], _ => True
  | c :: cs, x => c.ok x.1 ∧ okL cs x.2
def fitsL (P : Program) : List C → List TypeId → Bool
  | [], [] => true
  | c :: cs, t :: ts => c.fits P (.inl t) && fitsL P cs ts
  | _, _ => false

section
variable {H : Type} {enc : TypeId × Value → H} {P : Program} {w : World}

theorem one_inv {F : Nat → Prop} {v : Value} {d : D} (h : CR w F v.cells.toList [d]) (h1 : v.cells = #[v]) : RepR w F v d := by
  rw [h1] at h
  exact (h.2 0 v d rfl rfl).1

theorem read_arg {c : C} {t : TypeId} {v : Value} {d : DataW H} {p : List MemPlace} {base : Nat} (hf : c.fits P (.inl t) = true) (hval : Value.okWide P w .any base t v) (h : DataW.Trod enc P w 0 (fun _ => true) true t v d p) (hs : small P t d) :
    ∃ x : c.den, RepR w (fun b => b < w.heap.size) v (c.arg x) ∧ c.ok x := by
  obtain ⟨fuel, hf2⟩ := h
  obtain ⟨x, hx, hok⟩ := (read_ok (enc := enc) (w := w) c).1 t fuel _ _ hf hf2 hs
  refine ⟨x, ?_, hok⟩
  have agg : ∀ cs : Array Value, v = .agg cs → ∀ ds, CR w (fun b => b < w.heap.size) v.cells.toList ds → RepR w (fun b => b < w.heap.size) v (.agg ds) := by
    rintro cs rfl ds ⟨h1, h2⟩
    exact .agg (by simpa [Value.cells] using h1) (fun i u hu => by
      have hi : i < ds.length := by rw [← h1]; have := (Array.getElem?_eq_some_iff.1 hu).1; simpa [Value.cells] using this
      exact (h2 i u ds[i] (by simpa [Value.cells] using hu) (by simp [hi])).2) fun i u e hu he => (h2 i u e (by simpa [Value.cells] using hu) he).1
  cases c with
  | int k =>
    simp only [C.fits, Bool.and_eq_true] at hf
    obtain ⟨hf, _⟩ := hf
    split at hf
    · rename_i k' hu
      obtain ⟨n, rfl⟩ := okWide_int hu hval
      exact one_inv hx rfl
    · cases hf
  | byte =>
    simp only [C.fits, Bool.and_eq_true] at hf
    obtain ⟨hf, _⟩ := hf
    split at hf
    · rename_i hu
      obtain ⟨n, rfl⟩ := okWide_int hu hval
      exact one_inv hx rfl
    · cases hf
  | bool =>
    simp only [C.fits, Bool.and_eq_true] at hf
    obtain ⟨hf, _⟩ := hf
    split at hf
    · rename_i hu
      have : ∃ b, v = .bool b := by
        simp only [Value.okWide, hu, Cell.okWide] at hval
        cases v <;> simp_all [Cell.ok]
      obtain ⟨b, rfl⟩ := this
      exact one_inv hx rfl
    · cases hf
  | str =>
    simp only [C.fits, Bool.and_eq_true] at hf
    obtain ⟨hf, _⟩ := hf
    split at hf
    · rename_i hu
      obtain ⟨n, rfl⟩ := okWide_string hu hval
      exact one_inv hx rfl
    · cases hf
  | slice e =>
    simp only [C.fits, Bool.and_eq_true] at hf
    obtain ⟨hf, _⟩ := hf
    split at hf
    · rename_i te hu
      obtain ⟨a, len, cap, rfl⟩ := okWide_slice hu hval
      exact one_inv hx rfl
    · cases hf
  | arr n e =>
    simp only [C.fits, Bool.and_eq_true] at hf
    obtain ⟨hf, _⟩ := hf
    split at hf
    · rename_i m te hu
      simp only [Value.okWide, hu] at hval
      obtain ⟨cs, rfl, _⟩ := hval
      exact agg cs rfl _ hx
    · cases hf
  | unit =>
    simp only [C.fits, Bool.and_eq_true] at hf
    obtain ⟨hf, _⟩ := hf
    split at hf
    · rename_i fs hu
      simp only [Value.okWide, hu] at hval
      obtain ⟨cs, rfl, _⟩ := hval
      exact agg cs rfl _ hx
    · cases hf
  | pair a b =>
    simp only [C.fits, Bool.and_eq_true] at hf
    obtain ⟨hf, _⟩ := hf
    split at hf
    · rename_i fs hu
      simp only [Value.okWide, hu] at hval
      obtain ⟨cs, rfl, _⟩ := hval
      exact agg cs rfl _ hx
    · cases hf

theorem args_read {base : Nat} : ∀ {cs : List C} {ts : List TypeId} {vs : List Value} {ds : List (DataW H)} {ps : List MemPlace}, fitsL P cs ts = true → (∀ (j : Nat) t v, ts[j]? = some t → vs[j]? = some v → Value.okWide P w .any base t v) →
    DataW.TrodAll enc P w 0 (fun _ => true) true ts vs ds ps → (∀ n ∈ DataW.weightsEach P ts ds, n ≤ reachBytes) → ∃ xs : denL cs, okL cs xs ∧ FArgs w (fun b => b < w.heap.size) vs (argsL cs xs)
  | [], [], vs, ds, ps, _, _, h, _ => by
    cases vs with
    | nil => exact ⟨(), trivial, rfl, fun i v d hv => by simp at hv⟩
    | cons v vs => cases ds <;> simp [DataW.TrodAll] at h
  | c :: cs, t :: ts, vs, ds, ps, hf, hval, h, hw => by
    simp only [fitsL, Bool.and_eq_true] at hf
    obtain ⟨v, vs', d, ds', p, q, rfl, rfl, rfl, h1, h2⟩ := trodAll_cons h
    obtain ⟨x, hx, hox⟩ := read_arg hf.1 (hval 0 t v rfl rfl) h1 fun n hn => hw n (by simp only [DataW.weightsEach, List.mem_append]; exact .inl hn)
    obtain ⟨xs, hoxs, ha⟩ := args_read (base := base) hf.2 (fun j t v ht hv => hval (j + 1) t v (by simpa using ht) (by simpa using hv)) h2 fun n hn => hw n (by simp only [DataW.weightsEach, List.mem_append]; exact .inr hn)
    refine ⟨(x, xs), ⟨hox, hoxs⟩, by simp [argsL, ha.1], fun i u e hu he => ?_⟩
    cases i with
    | zero => simp [argsL] at hu he; subst hu; subst he; exact hx
    | succ i => exact ha.2 i u e (by simpa using hu) (by simpa [argsL] using he)
  | [], _ :: _, _, _, _, hf, _, _, _ => by simp [fitsL] at hf
  | _ :: _, [], _, _, _, hf, _, _, _ => by simp [fitsL] at hf

theorem trodAll_below (hl : laidOutB P = true) {W W' : World} (hb : Below W.heap.size W W') : ∀ {ts : List TypeId} {vs : List Value} {ds : List (DataW H)} {ps : List MemPlace}, ts.all (fun t => P.readableRec t && decide (t < P.types.size)) = true →
    DataW.TrodAll enc P W 0 (fun _ => true) true ts vs ds ps → DataW.TrodAll enc P W' 0 (fun b => decide (b < W.heap.size)) true ts vs ds ps
  | [], vs, ds, ps, _, h => by
    cases vs <;> cases ds <;> simp_all [DataW.TrodAll]
  | t :: ts, vs, ds, ps, hr, h => by
    simp only [List.all_cons, Bool.and_eq_true, decide_eq_true_eq] at hr
    obtain ⟨v, vs', d, ds', p, q, rfl, rfl, rfl, h1, h2⟩ := trodAll_cons h
    refine ⟨p, q, Below.trod hl hr.1.1 hr.1.2 h1 hb ?_, trodAll_below hl hb hr.2 h2, rfl⟩
    obtain ⟨m, hm⟩ := h1
    exact DataW.trod_lt m _ _ _ hm

theorem contract_of (hl : laidOutB P = true) {fn : Func} {f : FuncId} {s : ChangeSpec} (hr : fn.params.toList.all (fun t => P.readableRec t && decide (t < P.types.size)) = true) {tb : TypeId} (hres : fn.resultTypes = #[tb]) (htb : P.underlying tb = some .bool) (hv : s.vars = [])
    {W : World} {args : Array Value} {ds gs : List (DataW H)} {before : List MemPlace} (hW : DataW.Whole enc P fn.params.toList s.vars false W args.toList ds gs before) (hout : (s.fn H ds).results = [.lit (.bool true)] ∧ (s.fn H ds).args = ds ∧ (s.fn H ds).vars = [])
    {ds' : List D} (ha : FArgs W (fun b => b < W.heap.size) args.toList ds') (hfn : Fn [] P f ds' (.bool true)) : Calls P f args W fun e W' => ∃ v, e = .returned v ∧ s.post enc P fn false true false false W args v W' := by
  have hW' := hW
  obtain ⟨p, q, hA, hV, rfl, hfz, hnd⟩ := hW
  rw [hv] at hV
  obtain ⟨rfl, rfl⟩ := trodVars_none hV
  let b0 : Bas := ⟨W, ⟨fun _ => True, fun _ _ => none⟩, [], fun _ _ => trivial, fun _ => False, fun _ => (none, 0), fun _ => rfl, fun _ h => h.elim, fun g cs h => by simp [lk] at h⟩
  have hc := hfn.2 b0 args.toList rfl (fun _ h => h) ⟨ha.1, fun i v d h1 h2 => (ha.2 i v d h1 h2).mono (fun _ _ => rfl) fun b hb => ⟨trivial, hb⟩⟩
  refine hc.mono fun e W' ⟨v, he, hrep, hb⟩ => ⟨v, he, ?_⟩
  obtain rfl : v = .bool true := by cases hrep; rfl
  refine ⟨ds, [], _, [], p, [], hW', ?_, ?_, ?_, hb.frame _, fun h => by cases h⟩
  · rw [hres, List.append_nil, hout.1]
    exact trodAll_mk1 (shut_bool htb _)
  · rw [List.append_nil, hout.2.1]
    exact trodAll_below hl hb hr hA
  · rw [List.append_nil, hv, hout.2.2]
    rfl
end
#print axioms contract_of
end Go.Abs
end
section
namespace Go.Abs
open Go.RowKit (Below)

def frC (cs : List D) : Prop := ∀ c ∈ cs, flS c = true
def frS (S : St) (d : D) : Prop :=
  match d with
  | .ptr id _ | .osl id _ _ | .osw id _ _ _ => lkoW id S.own frC
  | .oag _ | .ofn _ _ => False
  | d => flS d = true
def frSL (S : St) : List D → Prop
  | [] => True
  | d :: r => frS S d ∧ frSL S r
def frD (S : St) (d : D) : Prop :=
  match d with
  | .oag cs | .ofn _ cs => frSL S cs
  | .agg cs => frC cs
  | d => frS S d
def frL (S : St) : List D → Prop
  | [] => True
  | d :: r => frD S d ∧ frL S r

def FN (w0 : Bas) (w : World) (b : Nat) : Prop := (w0.w.heap.size ≤ b ∨ w0.lent b) ∧ b < w.heap.size
section
variable {w0 : Bas} {w : World} {φ : Loc} {S : St} {tmps : Array Value}

theorem own_FN (hs : SatC w0 φ S tmps w) {id b : Nat} {c : List D} (hid : lk id S.own = some c) (hb : (φ id).1 = some b) : FN w0 w b :=
  ⟨(hs.own id c hid).2 b hb, (hs.own id c hid).1.lt hb⟩
theorem flS_isP {c : D} (h : flS c = true) : isP c = true := by cases c <;> simp_all [flS, isP]
theorem flS_rep {F F' : Nat → Prop} {v : Value} {c : D} (h : Rep φ w F v c) (hf : flS c = true) : RepR w F' v c := (h.pure (flS_isP hf)).flS hf

theorem frS_ok (hs : SatC w0 φ S tmps w) {v : Value} {d : D} {k : D → Bool → Prop} (hr : Rep φ w (FSx φ S.own w) v d) (hf : frS S d) (h : coeS S d k) : ∃ d' b, k d' b ∧ RepR w (FN w0 w) v d' := by
  cases d with
  | ptr id off =>
    obtain ⟨c, hc, hp, hk⟩ := lkoW_ok h
    obtain ⟨c', hc', hfc⟩ := lkoW_ok hf
    obtain rfl : c = c' := Option.some.inj (hc.symm.trans hc')
    refine ⟨_, _, hk, ?_⟩
    cases hr with
    | ro hr => cases hr
    | ptr hb =>
      obtain ⟨arr, T, fz, h1, h2, h3, h4, h5, h6⟩ := own_cells hs hc hb
      have := RepR.rop (w := w) (F := FN w0 w) (b := _) (base := 0) (off := off) (cs := c) (fun j => arr.getD j undef) (own_FN hs hc hb)
        (fun j hj => ⟨by rw [Nat.zero_add]; exact h5 j hj, by obtain ⟨d, hd⟩ : ∃ d, c[j]? = some d := ⟨c[j], by simp [hj]⟩; exact (h6 j d hd).2⟩)
        (fun j d hd => flS_rep (h6 j d hd).1 (hfc d (List.mem_of_getElem? hd)))
      simpa using this
  | osl id sz n =>
    obtain ⟨c, hc, hp, hl, hk⟩ := lkoW_ok h
    obtain ⟨c', hc', hfc⟩ := lkoW_ok hf
    obtain rfl : c = c' := Option.some.inj (hc.symm.trans hc')
    refine ⟨_, _, hk, ?_⟩
    cases hr with
    | ro hr => cases hr
    | osl0 hb =>
      have : c = [] := List.eq_nil_of_length_eq_zero (by simpa using hl)
      subst this
      exact .sl0 (by simp [maxLen])
    | osl hb he hn hm =>
      obtain ⟨arr, T, fz, h1, h2, h3, h4, h5, h6⟩ := own_cells hs hc hb
      exact .sl (fun j => arr.getD j undef) rfl (own_FN hs hc hb) hn hm hl
        (fun j hj => ⟨by rw [Nat.zero_add]; exact h5 j (by omega), by obtain ⟨d, hd⟩ : ∃ d, c[j]? = some d := ⟨c[j]'(by omega), by simp⟩; exact (h6 j d hd).2⟩)
        (fun j d hd => flS_rep (h6 j d hd).1 (hfc d (List.mem_of_getElem? hd)))
  | osw id off sz n =>
    obtain ⟨c, hc, hp, hl, hk⟩ := lkoW_ok h
    obtain ⟨c', hc', hfc⟩ := lkoW_ok hf
    obtain rfl : c = c' := Option.some.inj (hc.symm.trans hc')
    refine ⟨_, _, hk, ?_⟩
    cases hr with
    | ro hr => cases hr
    | osw0 hc => rw [Nat.zero_mul, List.take_zero]; exact .sl0 hc
    | osw hb hn hm hsz =>
      obtain ⟨arr, T, fz, h1, h2, h3, h4, h5, h6⟩ := own_cells hs hc hb
      refine .sl (fun j => arr.getD (off + j) undef) rfl (own_FN hs hc hb) hn hm (by simp; omega)
        (fun j hj => ⟨h5 (off + j) (by omega), by obtain ⟨d, hd⟩ : ∃ d, c[off + j]? = some d := ⟨c[off + j]'(by omega), by simp⟩; exact (h6 _ d hd).2⟩)
        (fun j d hd => ?_)
      simp only [List.getElem?_take, List.getElem?_drop] at hd
      split at hd
      · exact flS_rep (h6 _ d hd).1 (hfc d (List.mem_of_getElem? hd))
      · cases hd
  | oag cs => exact h.elim
  | ofn f cs => exact h.elim
  | _ => first | exact ⟨_, _, h, flS_rep hr hf⟩ | (simp [frS, flS] at hf)

theorem frSL_ok (hs : SatC w0 φ S tmps w) : ∀ {ds : List D} {vs : List Value} {k : List D → Bool → Prop}, vs.length = ds.length →
    (∀ (i : Nat) (v : Value) (d : D), vs[i]? = some v → ds[i]? = some d → Rep φ w (FSx φ S.own w) v d) → frSL S ds → coeL S ds k → ∃ ds' b, k ds' b ∧ FArgs w (FN w0 w) vs ds'
  | [], vs, k, hl, hr, _, h => by
    have : vs = [] := List.eq_nil_of_length_eq_zero (by simpa using hl)
    subst this
    exact ⟨[], false, h, ⟨rfl, fun i v d hv => by simp at hv⟩⟩
  | d :: r, v :: vs, k, hl, hr, hf, h => by
    obtain ⟨d', b, h1, hd⟩ := frS_ok hs (hr 0 v d rfl rfl) hf.1 h
    obtain ⟨r', b', h2, ⟨hl', hr'⟩⟩ := frSL_ok hs (vs := vs) (by simpa using hl) (fun i v d hv hd => hr (i + 1) v d (by simpa using hv) (by simpa using hd)) hf.2 h1
    refine ⟨d' :: r', _, h2, ⟨by simp [hl'], fun i v2 d2 hv hd2 => ?_⟩⟩
    cases i with
    | zero => simp at hv hd2; subst hv; subst hd2; exact hd
    | succ i => exact hr' i v2 d2 (by simpa using hv) (by simpa using hd2)

theorem frD_ok (hs : SatC w0 φ S tmps w) {v : Value} {d : D} {k : D → Bool → Prop} (hr : Rep φ w (FSx φ S.own w) v d) (hf : frD S d) (h : coeW S d k) : ∃ d' b, k d' b ∧ RepR w (FN w0 w) v d' := by
  cases d with
  | oag cs =>
    cases hr with
    | ro hr => cases hr
    | @oag vs _ a b c =>
      obtain ⟨ds', bb, hk, ⟨hl, hr⟩⟩ := frSL_ok hs (vs := vs.toList) (by simpa using a) (fun i v d hv hd => c i v d (by simpa using hv) hd) hf h
      exact ⟨_, _, hk, .agg (by simpa using hl) b fun i v d hv hd => hr i v d (by simpa using hv) hd⟩
  | ofn f cs =>
    cases hr with
    | ro hr => cases hr
    | @ofn _ vs _ a c =>
      obtain ⟨ds', bb, hk, ⟨hl, hr⟩⟩ := frSL_ok hs (vs := vs.toList) (by simpa using a) (fun i v d hv hd => c i v d (by simpa using hv) hd) hf h
      exact ⟨_, _, hk, .fn (by simpa using hl) fun i v d hv hd => hr i v d (by simpa using hv) hd⟩
  | agg cs => exact ⟨_, _, h, (hr.pure rfl).flA hf⟩
  | _ => exact frS_ok hs hr hf h

theorem frL_ok (hs : SatC w0 φ S tmps w) : ∀ {ds : List D} {vs : List Value} {k : List D → Bool → Prop}, vs.length = ds.length →
    (∀ (i : Nat) (v : Value) (d : D), vs[i]? = some v → ds[i]? = some d → Rep φ w (FSx φ S.own w) v d) → frL S ds → coeLW S ds k → ∃ ds' b, k ds' b ∧ FArgs w (FN w0 w) vs ds'
  | [], vs, k, hl, hr, _, h => by
    have : vs = [] := List.eq_nil_of_length_eq_zero (by simpa using hl)
    subst this
    exact ⟨[], false, h, ⟨rfl, fun i v d hv => by simp at hv⟩⟩
  | d :: r, v :: vs, k, hl, hr, hf, h => by
    obtain ⟨d', b, h1, hd⟩ := frD_ok hs (hr 0 v d rfl rfl) hf.1 h
    obtain ⟨r', b', h2, ⟨hl', hr'⟩⟩ := frL_ok hs (vs := vs) (by simpa using hl) (fun i v d hv hd => hr (i + 1) v d (by simpa using hv) (by simpa using hd)) hf.2 h1
    refine ⟨d' :: r', _, h2, ⟨by simp [hl'], fun i v2 d2 hv hd2 => ?_⟩⟩
    cases i with
    | zero => simp at hv hd2; subst hv; subst hd2; exact hd
    | succ i => exact hr' i v2 d2 (by simpa using hv) (by simpa using hd2)
end

theorem FnF.mk {P : Program} {G : Glob} {f : FuncId} {fn : Func} {c : Code} {ds : List D} {d : D} {n : Nat} {rs : Array ResultVar} (hf : P.funcs[f]? = some fn) (hb : fn.body = some c) (hn : (fn.name == "runtime.NumGoroutine") = false) (hnt : fn.ntmps = n) (hrs : fn.results = rs)
    (h : bodyW G P n rs.toList c ds fun S rds => frL S rds ∧ coeLW S rds fun ds' _ => pack ds' = d) : FnF G P f ds d := by
  subst hnt hrs
  refine ⟨⟨fn, hf, by rw [hb]; rfl, hn⟩, fun b0 vs hG hL ha => (body_ok hf hb h hG ha).mono ?_⟩
  rintro e w' ⟨rvs, S, φ, rds, tmps, rfl, ⟨hfr, hk⟩, hs, hl, hr⟩
  obtain ⟨ds', b, rfl, ⟨hl', hr'⟩⟩ := frL_ok hs hl hr hfr hk
  refine ⟨_, rfl, ?_, hs.below.below hL⟩
  refine RepR.mono (F := FN b0 w') (w := w') ?_ (fun _ _ => rfl) fun b hb => ⟨hb.1.resolve_right (hL b), hb.2⟩
  match rvs, ds', hl' with
  | [], [], _ => exact .tup rfl fun i v d hv => by simp at hv
  | [v], [d], _ => exact hr' 0 v d rfl rfl
  | v :: u :: r, d :: e :: q, hl => exact .tup (by simpa using hl) fun i v d hv hd => hr' i v d (by simpa using hv) hd

/-! ### Laws by which this is computed -/
section
variable {n nx : Nat} {env : List (Nat × D)} {own : List (Nat × List D)} {S : St}
end
#print axioms FnF.mk
end Go.Abs
end
