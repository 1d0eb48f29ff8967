/-
  AN ABSTRACT WALK, thirteenth text: one operation, whatever it is.
-/
import Derived.Test.YtccipobbdohdpaaDoorAbs12
namespace Go.Abs
open Go.RowKit (Below)

/-! ### Operations with two operands -/
def shW (op : BinOp) (kk : IntKind) (x y : Int) (k : D → Prop) : Prop :=
  match op with
  | .shl => 0 ≤ y ∧ k (.int kk (shlI kk x y))
  | .shr => 0 ≤ y ∧ k (.int kk (shrI kk x y))
  | _ => False
def blW (op : BinOp) (a b : Bool) (k : D → Prop) : Prop :=
  match op with
  | .eql => k (.bool (decide (a = b)))
  | .neq => k (.bool (decide (a ≠ b)))
  | _ => False
def agW (P : Program) (op : BinOp) (t : TypeId) (dx dy : D) (k : D → Prop) : Prop :=
  match op with
  | .eql => agC dx fun cs => agC dy fun ds => flkW P t fun ks => kdM cs ks ∧ kdM ds ks ∧ k (.bool (eqB cs ds))
  | .neq => agC dx fun cs => agC dy fun ds => flkW P t fun ks => kdM cs ks ∧ kdM ds ks ∧ k (.bool (!eqB cs ds))
  | _ => False
/-- How many elements a slice has. -/
def slN : D → Option Nat
  | .sl _ n _ | .slx _ n _ | .osl _ _ n | .osw _ _ _ n => some n
  | _ => none
/-- Is it nil? With elements: no. With none: it may be, and may not. -/
def nilW (n : Nat) (k : Bool → Prop) : Prop := (0 < n → k false) ∧ (n = 0 → ∀ b, k b)
def slnW (op : BinOp) (a : D) (k : D → Prop) : Prop :=
  match op, a with
  | .eql, .nils => k (.bool true)
  | .neq, .nils => k (.bool false)
  | .eql, a => ∃ n, slN a = some n ∧ nilW n fun b => k (.bool b)
  | .neq, a => ∃ n, slN a = some n ∧ nilW n fun b => k (.bool !b)
  | _, _ => False
theorem slN_ok {w : World} {φ : Loc} {F : Nat → Prop} {v : Value} {d : D} {n : Nat} (hr : Rep φ w F v d) (h : slN d = some n) : ∃ p c, v = .slice p n c ∧ (0 < n → p.isSome = true) := by
  cases hr with
  | ro hr => cases hr <;> simp only [slN, reduceCtorEq, Option.some.injEq] at h <;> subst h <;> exact ⟨_, _, rfl, by simp⟩
  | osl0 => simp only [slN, Option.some.injEq] at h; subst h; exact ⟨_, _, rfl, by simp⟩
  | osl => simp only [slN, Option.some.injEq] at h; subst h; exact ⟨_, _, rfl, by simp⟩
  | osw0 => simp only [slN, Option.some.injEq] at h; subst h; exact ⟨_, _, rfl, by simp⟩
  | osw => simp only [slN, Option.some.injEq] at h; subst h; exact ⟨_, _, rfl, by simp⟩
  | _ => simp [slN] at h
theorem run_slice_eql {P : Program} {w : World} {t e : TypeId} (ht : P.underlying t = some (.slice e)) (p : Option Addr) (n c : Nat) : (Op.equal t (.slice p n c) (.slice none 0 0)).run P w = .ok (!p.isSome) w := by
  unfold Op.equal Op.maxDepth Op.equalIn
  rw [Sem.run_bind, run_underlying ht, Result.andThen_ok]
  cases p <;> simp
theorem slnW_ok {P : Program} {w : World} {φ : Loc} {F : Nat → Prop} {op : BinOp} {t e : TypeId} (ht : P.underlying t = some (.slice e)) {xv : Value} {dx : D} {k : D → Prop} (hx : Rep φ w F xv dx) (h : slnW op dx k) (x y : Operand) :
    ∃ v d, (do eqGuard op t x y xv (.slice none 0 0); binOp op t xv (.slice none 0 0) : Sem Value).run P w = .ok v w ∧ k d ∧ RepR w F v d := by
  have guard : ∀ (p : Option Addr) (n c : Nat), (eqGuard op t x y (.slice p n c) (.slice none 0 0)).run P w = .ok () w := by
    intro p n c; unfold eqGuard; cases op <;> simp
  have core : ∀ (p : Option Addr) (n c : Nat), xv = .slice p n c → (op = .eql ∧ k (.bool (!p.isSome)) ∨ op = .neq ∧ k (.bool (p.isSome))) → ∃ v d, (do eqGuard op t x y xv (.slice none 0 0); binOp op t xv (.slice none 0 0) : Sem Value).run P w = .ok v w ∧ k d ∧ RepR w F v d := by
    rintro p n c rfl (⟨rfl, hk⟩ | ⟨rfl, hk⟩)
    · refine ⟨.bool (!p.isSome), _, ?_, hk, .bool⟩
      rw [Sem.run_bind, guard, Result.andThen_ok]
      simp [binOp, run_slice_eql ht]
    · refine ⟨.bool (p.isSome), _, ?_, hk, .bool⟩
      rw [Sem.run_bind, guard, Result.andThen_ok]
      simp [binOp, run_slice_eql ht]
  have some_ : ∀ n, slN dx = some n → ∀ kk : Bool → Prop, nilW n kk → ∃ p c, xv = .slice p n c ∧ kk (!p.isSome) := by
    intro n hn kk hk
    obtain ⟨p, c, e, hp⟩ := slN_ok hx hn
    refine ⟨p, c, e, ?_⟩
    rcases Nat.eq_zero_or_pos n with h0 | h0
    · exact hk.2 h0 _
    · rw [hp h0]; exact hk.1 h0
  unfold slnW at h
  split at h
  · have : xv = .slice none 0 0 := by cases hx with | ro h => cases h; rfl
    exact core none 0 0 this (.inl ⟨rfl, h⟩)
  · have : xv = .slice none 0 0 := by cases hx with | ro h => cases h; rfl
    exact core none 0 0 this (.inr ⟨rfl, h⟩)
  · obtain ⟨n, hn, h⟩ := h
    obtain ⟨p, c, e, hk⟩ := some_ n hn _ h
    exact core p n c e (.inl ⟨rfl, hk⟩)
  · obtain ⟨n, hn, h⟩ := h
    obtain ⟨p, c, e, hk⟩ := some_ n hn _ h
    exact core p n c e (.inr ⟨rfl, by simpa using hk⟩)
  · exact h.elim
def isSlW (ty : TY) (A : Prop) : Prop := match ty with | .slice _ => A | _ => False
def bnW (P : Program) (op : BinOp) (xt : TypeId) (a b : D) (k : D → Prop) : Prop :=
  match a, b with
  | .int k1 x, .int k2 y => if isSh op = true then shW op k1 x y k else if k1 = k2 then intW op k1 x y k else False
  | .str a, .str b => strW op a b k
  | .bool a, .bool b => tyOf P xt = .bool ∧ blW op a b k
  | a, .nils => isSlW (tyOf P xt) (slnW op a k)
  | a, b => agW P op xt a b k

theorem run_shift {P : Program} {w : World} {op : BinOp} {k1 k2 : IntKind} {x y : Int} {k : D → Prop} (hx : inR k1 x) (h : shW op k1 x y k) (t : TypeId) : ∃ v d, (binOp op t (.int k1 x) (.int k2 y)).run P w = .ok v w ∧ k d ∧ ∀ F, RepR w F v d := by
  cases op <;> simp only [shW] at h <;> first | (exact h.elim) | skip
  case shl =>
    obtain ⟨h0, hk⟩ := h
    refine ⟨.int k1 (shlI k1 x y), _, ?_, hk, fun F => .int (inR_wrap _ _).1 (inR_wrap _ _).2⟩
    simp [binOp, Op.shift, shlI, Int.not_lt.2 h0]
  case shr =>
    obtain ⟨h0, hk⟩ := h
    refine ⟨.int k1 (shrI k1 x y), _, ?_, hk, fun F => .int (inR_shr hx).1 (inR_shr hx).2⟩
    have hp : (0 : Int) ≤ 2 ^ (min y.toNat k1.bits) := Int.le_of_lt (Int.pow_pos (by decide))
    simp [binOp, Op.shift, shrI, Int.not_lt.2 h0, Int.fdiv_eq_ediv_of_nonneg _ hp]

theorem eqGuard_plain {P : Program} {w : World} (op : BinOp) (t : TypeId) (x y : Operand) {a b : Value} (h : (∃ k n, a = .int k n) ∨ (∃ s, a = .string s) ∨ (∃ s, a = .bool s)) : (eqGuard op t x y a b).run P w = .ok () w := by
  rcases h with ⟨k, n, rfl⟩ | ⟨s, rfl⟩ | ⟨s, rfl⟩ <;> unfold eqGuard <;> cases op <;> simp

theorem bnW_ok {P : Program} {w : World} {φ : Loc} {F : Nat → Prop} {op : BinOp} {t : TypeId} {xv yv : Value} {dx dy : D} {k : D → Prop} (hx : Rep φ w F xv dx) (hy : Rep φ w F yv dy) (h : bnW P op t dx dy k) (x y : Operand) :
    ∃ v d, (do eqGuard op t x y xv yv; binOp op t xv yv : Sem Value).run P w = .ok v w ∧ k d ∧ RepR w F v d := by
  unfold bnW at h
  split at h
  · obtain ⟨rfl, h1⟩ := hx.int_inv
    obtain ⟨rfl, h2⟩ := hy.int_inv
    split at h
    · obtain ⟨v, d, e1, e2, e3⟩ := run_shift (P := P) (w := w) (k2 := _) h1 h t
      exact ⟨v, d, by rw [Sem.run_bind, eqGuard_plain op t x y (.inl ⟨_, _, rfl⟩), Result.andThen_ok]; exact e1, e2, e3 F⟩
    · split at h
      · rename_i hsh e
        subst e
        obtain ⟨v, d, e1, e2, e3⟩ := intW_ok (P := P) (w := w) h1 h2 h (by rintro rfl; exact hsh rfl) (by rintro rfl; exact hsh rfl) t
        exact ⟨v, d, by rw [Sem.run_bind, eqGuard_plain op t x y (.inl ⟨_, _, rfl⟩), Result.andThen_ok]; exact e1, e2, e3 F⟩
      · exact h.elim
  · obtain ⟨b1, rfl, hb1, _⟩ := hx.str_inv
    obtain ⟨b2, rfl, hb2, _⟩ := hy.str_inv
    obtain ⟨v, d, e1, e2, e3⟩ := strW_ok (P := P) (w := w) hb1 hb2 h t
    exact ⟨v, d, by rw [Sem.run_bind, eqGuard_plain op t x y (.inr (.inl ⟨_, rfl⟩)), Result.andThen_ok]; exact e1, e2, e3 F⟩
  · have := hx.bool_inv; subst this
    have := hy.bool_inv; subst this
    obtain ⟨ht, h⟩ := h
    rename_i a b
    have hu := tyOf_bool ht
    cases op <;> simp only [blW] at h <;> first | (exact h.elim) | skip
    case eql =>
      refine ⟨.bool (decide (a = b)), _, ?_, h, .bool⟩
      rw [Sem.run_bind, eqGuard_plain .eql t x y (.inr (.inr ⟨_, rfl⟩)), Result.andThen_ok]
      have e : decide (a = b) = (a == b) := by cases a <;> cases b <;> rfl
      rw [e]
      simp [binOp, Op.equal, Op.maxDepth, run_equalIn_bool' w 9999 t a b hu]
    case neq =>
      refine ⟨.bool (decide (a ≠ b)), _, ?_, h, .bool⟩
      rw [Sem.run_bind, eqGuard_plain .neq t x y (.inr (.inr ⟨_, rfl⟩)), Result.andThen_ok]
      have e : decide (a ≠ b) = !(a == b) := by cases a <;> cases b <;> rfl
      rw [e]
      simp [binOp, Op.equal, Op.maxDepth, run_equalIn_bool' w 9999 t a b hu]
  · have : yv = .slice none 0 0 := by cases hy with | ro h => cases h; rfl
    subst this
    unfold isSlW at h
    split at h
    · rename_i e ht
      exact slnW_ok (tyOf_slice ht) hx h x y
    · exact h.elim
  · cases op <;> simp only [agW] at h <;> first | (exact h.elim) | skip
    case eql =>
      obtain ⟨b, hk, e1, _⟩ := eqA_ok (P := P) hx hy (k := fun b => k (.bool b)) h x y
      exact ⟨_, _, e1, hk, .bool⟩
    case neq =>
      obtain ⟨b, hk, _, e1⟩ := eqA_ok (P := P) hx hy (k := fun b => k (.bool (!b))) h x y
      exact ⟨_, _, e1, hk, .bool⟩

/-! ### Operations with one operand; tuples; places -/
def unW (op : UnOp) (d : D) (k : D → Prop) : Prop :=
  match op, d with
  | .neg, .int kk n => wrW kk (0 - n) k
  | .not, .bool b => k (.bool !b)
  | .xor, .int kk n => k (.int kk (bits .xor kk (if kk.signed = true then -1 else kk.max) n))
  | _, _ => False
theorem unW_ok {P : Program} {w : World} {φ : Loc} {F : Nat → Prop} {op : UnOp} {xv : Value} {d : D} {k : D → Prop} (hx : Rep φ w F xv d) (h : unW op d k) : ∃ v d', (Op.unary op xv).run P w = .ok v w ∧ k d' ∧ RepR w F v d' := by
  unfold unW at h
  split at h
  · obtain ⟨rfl, hin⟩ := hx.int_inv
    rename_i kk n
    exact ⟨.int kk (kk.wrap (0 - n)), _, by simp only [Op.unary, Op.intArith, Sem.run_pure], (wrW_ok h).2, .int (wrW_ok h).1.1 (wrW_ok h).1.2⟩
  · have := hx.bool_inv; subst this
    rename_i b
    exact ⟨.bool (!b), _, by simp only [Op.unary, Sem.run_pure], h, .bool⟩
  · obtain ⟨rfl, _⟩ := hx.int_inv
    exact ⟨_, _, by simp only [Op.unary]; rfl, h, .int (inR_bits _ _ _ _).1 (inR_bits _ _ _ _).2⟩
  · exact h.elim

def exW (d : D) (i : Nat) (k : D → Prop) : Prop := match d with | .tup ds => nthW ds i k | _ => False
theorem exW_ok {P : Program} {w : World} {φ : Loc} {F : Nat → Prop} {xv : Value} {d : D} {i : Nat} {k : D → Prop} (hx : Rep φ w F xv d) (h : exW d i k) : ∃ v d', (Instr.extract xv i).run P w = .ok v w ∧ k d' ∧ RepR w F v d' := by
  cases d with
  | tup ds =>
    obtain ⟨vs, rfl, hl, hr⟩ := hx.tup_inv
    obtain ⟨d', hd, hk⟩ := nthW_ok h
    have hlt : i < vs.size := by rw [hl]; exact (List.getElem?_eq_some_iff.1 hd).1
    exact ⟨vs[i], d', by simp [Instr.extract, hlt], hk, hr i _ d' (by simp [hlt]) hd⟩
  | _ => exact h.elim

def ncW (d : D) (A : Prop) : Prop := match d with | .ptr _ _ | .rop _ _ | .fn _ _ | .ofn _ _ => A | _ => False

def s2aW (n : Nat) (d : D) (k : D → Prop) : Prop :=
  match d with
  | .osl id _ m => 0 < n ∧ n ≤ m ∧ k (.ptr id 0)
  | .osw id off _ m => 0 < n ∧ n ≤ m ∧ k (.ptr id off)
  | .sl _ m cs | .slx _ m cs => 0 < n ∧ n ≤ m ∧ k (.rop cs 0)
  | _ => False
theorem s2aW_ok {P : Program} {w : World} {φ : Loc} {F : Nat → Prop} {T e : TypeId} {n : Nat} (ht : tyOf P T = .arr n e) {xv : Value} {d : D} {k : D → Prop} (hx : Rep φ w F xv d) (h : s2aW n d k) : ∃ v d', (Instr.arrayAt T xv).run P w = .ok v w ∧ k d' ∧ Rep φ w F v d' := by
  have hu := tyOf_arr ht
  have run : ∀ (p : Option Addr) (m c : Nat), n ≤ m → (Instr.arrayAt T (.slice p m c)).run P w = .ok (.pointer p) w := fun p m c hm => by
    simp [Instr.arrayAt, run_underlying hu, Nat.not_lt.2 hm]
  cases d with
  | osl id sz m =>
    obtain ⟨h0, h1, hk⟩ := h
    cases hx with
    | ro hx => cases hx
    | osl0 => omega
    | osl hb => exact ⟨_, _, run _ _ _ h1, hk, .ptr hb⟩
  | osw id off sz m =>
    obtain ⟨h0, h1, hk⟩ := h
    cases hx with
    | ro hx => cases hx
    | osw0 => omega
    | osw hb => exact ⟨_, _, run _ _ _ h1, hk, .ptr hb⟩
  | sl sz m cs =>
    obtain ⟨h0, h1, hk⟩ := h
    cases hx with | ro hx => cases hx with
    | sl0 => omega
    | @sl a _ _ _ _ g a1 a2 a3 a4 a5 a6 a7 =>
      obtain ⟨b, o, s⟩ := a
      simp only at a1; subst a1
      exact ⟨_, _, run _ _ _ h1, hk, .ro (RepR.rop (base := o) (off := 0) g a2 (fun j hj => a6 j (by omega)) a7)⟩
  | slx sz m cs =>
    obtain ⟨h0, h1, hk⟩ := h
    cases hx with | ro hx => cases hx with
    | slx0 => omega
    | @slx a _ _ _ g a1 a2 a3 a5 a6 a7 =>
      obtain ⟨b, o, s⟩ := a
      simp only at a1; subst a1
      exact ⟨_, _, run _ _ _ h1, hk, .ro (RepR.rop (base := o) (off := 0) g a2 (fun j hj => a6 j (by omega)) a7)⟩
  | _ => exact h.elim

/-! ### len, min, max, copy, append -/
def lnW (ty : TY) (d : D) (k : D → Prop) : Prop :=
  match ty, d with
  | .str, .str s => k (.int .i64 s.length)
  | .slice _, .nils => k (.int .i64 0)
  | .slice _, .sl _ n _ | .slice _, .slx _ n _ | .slice _, .osl _ _ n | .slice _, .osw _ _ _ n => k (.int .i64 n)
  | .arr n _, _ => n ≤ maxLen ∧ k (.int .i64 n)
  | _, _ => False
theorem inR_len {n : Nat} (h : n ≤ maxLen) : inR .i64 n := by simp only [maxLen] at h; rw [inR_i64]; omega
theorem lnW_ok {P : Program} {w : World} {φ : Loc} {F : Nat → Prop} {T ty : TypeId} {xv : Value} {d : D} {k : D → Prop} (hx : Rep φ w F xv d) (h : lnW (tyOf P T) d k) : ∃ v d', (Builtin.len_ #[T] ty #[xv]).run P w = .ok v w ∧ k d' ∧ RepR w F v d' := by
  unfold lnW at h
  split at h
  · rename_i s ht
    obtain ⟨b, rfl, hb, hl⟩ := hx.str_inv
    have := inR_len hl
    have hsz : b.size = s.length := by rw [ba_size, hb]
    exact ⟨.int .i64 s.length, _, by simp [Builtin.len_, run_underlying (tyOf_str ht), goInt, hsz], h, .int this.1 this.2⟩
  · rename_i e ht
    have : xv = .slice none 0 0 := by cases hx with | ro h => cases h; rfl
    subst this
    exact ⟨.int .i64 0, _, by simp [Builtin.len_, run_underlying (tyOf_slice ht), goInt], h, .int (by decide) (by decide)⟩
  · rename_i e sz n cs ht
    have : ∃ p c, xv = .slice p n c ∧ n ≤ maxLen := by
      cases hx with | ro h => cases h with
      | sl0 => exact ⟨_, _, rfl, by simp [maxLen]⟩
      | sl g a b c d => exact ⟨_, _, rfl, by omega⟩
    obtain ⟨p, c, rfl, hm⟩ := this
    have := inR_len hm
    exact ⟨.int .i64 n, _, by simp [Builtin.len_, run_underlying (tyOf_slice ht), goInt], h, .int this.1 this.2⟩
  · rename_i e sz n cs ht
    have : ∃ p c, xv = .slice p n c ∧ n ≤ maxLen := by
      cases hx with | ro h => cases h with
      | slx0 => exact ⟨_, _, rfl, by simp [maxLen]⟩
      | slx g a b c d => exact ⟨_, _, rfl, by omega⟩
    obtain ⟨p, c, rfl, hm⟩ := this
    have := inR_len hm
    exact ⟨.int .i64 n, _, by simp [Builtin.len_, run_underlying (tyOf_slice ht), goInt], h, .int this.1 this.2⟩
  · rename_i e id sz n ht
    have : ∃ p c, xv = .slice p n c ∧ n ≤ maxLen := by
      cases hx with
      | ro h => cases h
      | osl0 => exact ⟨_, _, rfl, by simp [maxLen]⟩
      | osl => exact ⟨_, _, rfl, by omega⟩
    obtain ⟨p, c, rfl, hm⟩ := this
    have := inR_len hm
    exact ⟨.int .i64 n, _, by simp [Builtin.len_, run_underlying (tyOf_slice ht), goInt], h, .int this.1 this.2⟩
  · rename_i e id off sz n ht
    have : ∃ p c, xv = .slice p n c ∧ n ≤ maxLen := by
      cases hx with
      | ro h => cases h
      | osw0 => exact ⟨_, _, rfl, by simp [maxLen]⟩
      | osw => exact ⟨_, _, rfl, by omega⟩
    obtain ⟨p, c, rfl, hm⟩ := this
    have := inR_len hm
    exact ⟨.int .i64 n, _, by simp [Builtin.len_, run_underlying (tyOf_slice ht), goInt], h, .int this.1 this.2⟩
  · rename_i d' n e ht
    have := inR_len h.1
    exact ⟨.int .i64 n, _, by cases xv <;> simp [Builtin.len_, run_underlying (tyOf_arr ht), goInt], h.2, .int this.1 this.2⟩
  · exact h.elim

def mxW (isMax : Bool) : D → List D → (D → Prop) → Prop
  | d, [], k => k d
  | .int k1 a, .int k2 b :: r, k => k1 = k2 ∧ mxW isMax (.int k1 (if isMax = true then max a b else min a b)) r k
  | _, _, _ => False
theorem mxW_ok {P : Program} {w : World} {φ : Loc} {F : Nat → Prop} {isMax : Bool} : ∀ {ds : List D} {d : D} {vs : List Value} {v : Value} {k : D → Prop}, vs.length = ds.length → Rep φ w F v d → (∀ (i : Nat) (v : Value) (d : D), vs[i]? = some v → ds[i]? = some d → Rep φ w F v d) → mxW isMax d ds k →
    ∃ v' d', (vs.foldlM (if isMax = true then Builtin.max2 else Builtin.min2) v).run P w = .ok v' w ∧ k d' ∧ Rep φ w F v' d'
  | [], d, [], v, k, _, hd, _, h => by
    have : k d := by cases d <;> exact h
    exact ⟨v, d, by simp, this, hd⟩
  | e :: ds, d, [], v, k, hl, _, _, _ => by simp at hl
  | [], d, x :: vs, v, k, hl, _, _, _ => by simp at hl
  | e :: ds, d, x :: vs, v, k, hl, hd, hr, h => by
    cases d with
    | int k1 a =>
      cases e with
      | int k2 b =>
        obtain ⟨rfl, h⟩ := h
        obtain ⟨rfl, h1⟩ := hd.int_inv
        obtain ⟨rfl, h2⟩ := (hr 0 x _ rfl rfl).int_inv
        have hin : inR k1 (if isMax = true then max a b else min a b) := by
          unfold inR at *
          split <;> omega
        obtain ⟨v', d', e1, e2, e3⟩ := mxW_ok (isMax := isMax) (vs := vs) (v := .int k1 (if isMax = true then max a b else min a b)) (by simpa using hl) (.ro (.int hin.1 hin.2)) (fun i v d hv hd => hr (i + 1) v d (by simpa using hv) (by simpa using hd)) h
        refine ⟨v', d', ?_, e2, e3⟩
        rw [List.foldlM_cons, Sem.run_bind]
        have e0 : ((if isMax = true then Builtin.max2 else Builtin.min2) (.int k1 a) (.int k1 b)).run P w = .ok (.int k1 (if isMax = true then max a b else min a b)) w := by
          cases isMax
          · simp only [Bool.false_eq_true, if_false, Builtin.min2, Sem.run_pure]
            congr 2; simp only [Int.min_def]; split <;> split <;> omega
          · simp only [if_true, Builtin.max2, Sem.run_pure]
            congr 2; simp only [Int.max_def]; split <;> split <;> omega
        rw [e0]; exact e1
      | _ => exact absurd h (by simp [mxW])
    | _ => exact absurd h (by simp [mxW])

#print axioms bnW_ok
#print axioms mxW_ok
end Go.Abs
