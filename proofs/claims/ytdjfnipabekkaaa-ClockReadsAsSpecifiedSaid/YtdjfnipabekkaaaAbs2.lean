/-
  AN ABSTRACT WALK, second text: operands; arithmetic, comparisons, conversions between integers, strings' operations: what they do to data, and that the machine does the same.
-/
import Derived.Test.YtdjfnipabekkaaaAbs1
namespace Go.Abs
open Go.RowKit (Below)

def inR (k : IntKind) (n : Int) : Prop := k.min ≤ n ∧ n ≤ k.max
theorem inR_i64 (n : Int) : inR .i64 n = (-9223372036854775808 ≤ n ∧ n ≤ 9223372036854775807) := rfl
theorem inR_i32 (n : Int) : inR .i32 n = (-2147483648 ≤ n ∧ n ≤ 2147483647) := rfl
theorem inR_i16 (n : Int) : inR .i16 n = (-32768 ≤ n ∧ n ≤ 32767) := rfl
theorem inR_i8 (n : Int) : inR .i8 n = (-128 ≤ n ∧ n ≤ 127) := rfl
theorem inR_u64 (n : Int) : inR .u64 n = (0 ≤ n ∧ n ≤ 18446744073709551615) := rfl
theorem inR_u32 (n : Int) : inR .u32 n = (0 ≤ n ∧ n ≤ 4294967295) := rfl
theorem inR_u16 (n : Int) : inR .u16 n = (0 ≤ n ∧ n ≤ 65535) := rfl
theorem inR_u8 (n : Int) : inR .u8 n = (0 ≤ n ∧ n ≤ 255) := rfl

theorem wrap_of_inR {k : IntKind} {n : Int} (h : inR k n) : k.wrap n = n := by
  cases k
  · exact IntWalk.i8_in n h
  · exact IntWalk.i16_in n h
  · exact IntWalk.i32_in n h
  · exact IntWalk.i64_in n h
  · exact IntWalk.u8_in n h
  · exact IntWalk.u16_in n h
  · exact IntWalk.u32_in n h
  · exact IntWalk.u64_in n h

theorem inR_wrap (k : IntKind) (n : Int) : inR k (k.wrap n) := by
  cases k <;> simp only [inR, IntKind.min, IntKind.max, IntKind.wrap, IntKind.signed, IntKind.bits] <;> simp <;> (try split) <;> omega

/-! ### Operands -/
def bD (b : UInt8) : D := .int .u8 b.toNat

def lkW (t : Nat) : List (Nat × D) → (D → Prop) → Prop
  | [], _ => False
  | (s, d) :: r, k => if t = s then k d else lkW t r k
theorem lkW_cons (t s : Nat) (d : D) (r : List (Nat × D)) (k : D → Prop) : lkW t ((s, d) :: r) k = if t = s then k d else lkW t r k := _root_.id rfl
theorem lkW_nil (t : Nat) (k : D → Prop) : lkW t [] k = False := rfl
theorem lkW_ok {t : Nat} {env : List (Nat × D)} {k : D → Prop} (h : lkW t env k) : ∃ d, lk t env = some d ∧ k d := by
  induction env with
  | nil => exact h.elim
  | cons p r ih =>
    obtain ⟨s, d⟩ := p
    rw [lkW_cons] at h
    simp only [lk]
    split at h
    · rename_i e; exact ⟨d, by rw [if_pos e], h⟩
    · rename_i e; rw [if_neg e]; exact ih h

/-- A scalar as data. -/
def dS : Value → D
  | .bool b => .bool b
  | .int k n => if k.min ≤ n ∧ n ≤ k.max then .int k n else .any
  | .string s => if s.data.toList.length ≤ maxLen then .str s.data.toList else .any
  | .slice none 0 0 => .nils
  | _ => .any
def constW (v : Value) (k : D → Prop) : Prop :=
  match v with
  | .bool b => k (.bool b)
  | .int kk n => inR kk n ∧ k (.int kk n)
  | .string s => s.data.toList.length ≤ maxLen ∧ k (.str s.data.toList)
  | .slice none 0 0 => k .nils
  | .agg vs => vs.all Value.oneCell' = true ∧ k (.agg (vs.toList.map dS))
  | _ => k .any
theorem constW_bool (b : Bool) (k : D → Prop) : constW (.bool b) k = k (.bool b) := _root_.id rfl
theorem constW_int (kk : IntKind) (n : Int) (k : D → Prop) : constW (.int kk n) k = (inR kk n ∧ k (.int kk n)) := _root_.id rfl
theorem constW_string (s : ByteArray) (k : D → Prop) : constW (.string s) k = (s.data.toList.length ≤ maxLen ∧ k (.str s.data.toList)) := _root_.id rfl
theorem constW_nils (k : D → Prop) : constW (.slice none 0 0) k = k .nils := _root_.id rfl
theorem constW_agg (vs : Array Value) (k : D → Prop) : constW (.agg vs) k = (vs.all Value.oneCell' = true ∧ k (.agg (vs.toList.map dS))) := _root_.id rfl
theorem constW_ptr (k : D → Prop) : constW (.pointer none) k = k .any := _root_.id rfl
theorem constW_nilFunc (k : D → Prop) : constW .nilFunc k = k .any := _root_.id rfl
theorem constW_map (k : D → Prop) : constW (.map none) k = k .any := _root_.id rfl

theorem dS_ok (w : World) (F : Nat → Prop) (v : Value) : RepR w F v (dS v) := by
  unfold dS
  split
  · exact .bool
  · split
    · rename_i h; exact .int h.1 h.2
    · exact .any _
  · split
    · rename_i h; exact .str rfl h
    · exact .any _
  · exact .nils
  · exact .any _

theorem constW_ok {w : World} {F : Nat → Prop} {v : Value} {k : D → Prop} (h : constW v k) : ∃ d, k d ∧ RepR w F v d := by
  unfold constW at h
  split at h
  · exact ⟨_, h, .bool⟩
  · exact ⟨_, h.2, .int h.1.1 h.1.2⟩
  · exact ⟨_, h.2, .str rfl h.1⟩
  · exact ⟨_, h, .nils⟩
  · rename_i vs
    refine ⟨_, h.2, .agg (by simp) ?_ ?_⟩
    · intro i v hv
      have := Array.all_eq_true.1 h.1
      obtain ⟨hi, rfl⟩ := Array.getElem?_eq_some_iff.1 hv
      exact this i hi
    · intro i v d hv hd
      simp only [List.getElem?_map, Array.getElem?_toList, hv, Option.map_some, Option.some.injEq] at hd
      subst hd
      exact dS_ok w F v
  · exact ⟨_, h, .any _⟩

def GOk (G : Glob) (w0 : Bas) : Prop := w0.G = G

def glW (g : Nat) : Glob → (D → Prop) → Prop
  | [], k => k .any
  | (s, cs) :: r, k => if g = s then k (.rop cs 0) else glW g r k
theorem glW_cons (g s : Nat) (cs : List D) (r : Glob) (k : D → Prop) : glW g ((s, cs) :: r) k = if g = s then k (.rop cs 0) else glW g r k := _root_.id rfl
theorem glW_nil (g : Nat) (k : D → Prop) : glW g [] k = k .any := _root_.id rfl
theorem glW_ok {g : Nat} {G : Glob} {k : D → Prop} (h : glW g G k) : (∃ cs, lk g G = some cs ∧ k (.rop cs 0)) ∨ k .any := by
  induction G with
  | nil => exact .inr h
  | cons p r ih =>
    obtain ⟨s, cs⟩ := p
    rw [glW_cons] at h
    simp only [lk]
    split at h
    · rename_i e; exact .inl ⟨cs, by rw [if_pos e], h⟩
    · rename_i e; rw [if_neg e]; exact ih h

def evW (G : Glob) (S : St) (x : Operand) (k : D → Prop) : Prop :=
  match x with
  | .tmp t => lkW t S.env k
  | .const v => constW v k
  | .global g => glW g G k
  | .func f => k (.fn f [])
theorem evW_tmp (G : Glob) (n nx : Nat) (env : List (Nat × D)) (own : List (Nat × List D)) (t : Nat) (k : D → Prop) : evW G ⟨n, nx, env, own⟩ (.tmp t) k = lkW t env k := _root_.id rfl
theorem evW_const (G : Glob) (S : St) (v : Value) (k : D → Prop) : evW G S (.const v) k = constW v k := _root_.id rfl
theorem evW_global (G : Glob) (S : St) (g : Nat) (k : D → Prop) : evW G S (.global g) k = glW g G k := _root_.id rfl
theorem evW_func (G : Glob) (S : St) (f : Nat) (k : D → Prop) : evW G S (.func f) k = k (.fn f []) := _root_.id rfl

/-- What lay there when the call began, and belongs to the program, lies there still, and nobody writes it. -/
theorem glob_ok {G : Glob} {w0 : Bas} {w : World} {φ : Loc} {S : St} {tmps : Array Value} (hG : GOk G w0) (h : SatC w0 φ S tmps w) {g : Nat} {cs : List D} (hg : lk g G = some cs) :
    RepR w (FSx φ S.own w) (.pointer (some ⟨g, 0, none⟩)) (.rop cs 0) :=
  (w0.gok g cs (by rw [hG]; exact hg)).mono (fun b hb => h.below.block b hb.2.1 hb.2.2) fun b hb => ⟨Nat.lt_of_lt_of_le hb.2.1 h.below.size, fun id c hc e => by rcases (h.own id c hc).2 b e with h1 | h1; (have := hb.2.1; omega); exact hb.2.2 h1, by rw [h.base]; exact hb.1⟩

theorem evW_ok {G : Glob} {w0 : Bas} {w : World} {φ : Loc} {S : St} {a : Act} (hG : GOk G w0) (hs : SatC w0 φ S a.tmps w) {x : Operand} {k : D → Prop} (h : evW G S x k) :
    ∃ d, k d ∧ Rep φ w (FSx φ S.own w) (a.eval x) d := by
  unfold evW at h
  split at h
  · obtain ⟨d, hd, hk⟩ := lkW_ok h
    obtain ⟨v, hv, hr⟩ := hs.env _ _ hd
    exact ⟨d, hk, by simp only [Act.eval, Array.getD_eq_getD_getElem?, hv, Option.getD_some]; exact hr⟩
  · obtain ⟨d, hk, hr⟩ := constW_ok h
    exact ⟨d, hk, .ro hr⟩
  · rcases glW_ok h with ⟨cs, hg, hk⟩ | hk
    · exact ⟨_, hk, .ro (glob_ok hG hs hg)⟩
    · exact ⟨_, hk, .ro (.any _)⟩
  · exact ⟨_, h, .ro (.fn (by simp) (fun i v d hv _ => by simp at hv))⟩

/-! ### Inversions -/
section
variable {φ : Loc} {w : World} {F : Nat → Prop} {v : Value}
theorem Rep.int_inv {k : IntKind} {n : Int} (h : Rep φ w F v (.int k n)) : v = .int k n ∧ inR k n := by
  cases h with | ro h => cases h with | int a b => exact ⟨rfl, a, b⟩
theorem Rep.bool_inv {b : Bool} (h : Rep φ w F v (.bool b)) : v = .bool b := by
  cases h with | ro h => cases h; rfl
theorem Rep.str_inv {s : List UInt8} (h : Rep φ w F v (.str s)) : ∃ b, v = .string b ∧ b.data.toList = s ∧ s.length ≤ maxLen := by
  cases h with | ro h => cases h with | str a b => exact ⟨_, rfl, a, b⟩
theorem Rep.tup_inv {ds : List D} (h : Rep φ w F v (.tup ds)) : ∃ vs : Array Value, v = .tuple vs ∧ vs.size = ds.length ∧ (∀ (i : Nat) (v : Value) (d : D), vs[i]? = some v → ds[i]? = some d → RepR w F v d) := by
  cases h with | ro h => cases h with | tup a b => exact ⟨_, rfl, a, b⟩
end

/-! ### Arithmetic -/
/-- A sum, a difference, a product: exact where the kind is signed (that it fits is owed), cut where it is not. -/
def wrW (kk : IntKind) (n : Int) (k : D → Prop) : Prop :=
  match kk with
  | .i64 | .i32 | .i16 | .i8 => inR kk n ∧ k (.int kk n)
  | _ => k (.int kk (kk.wrap n))
theorem wrW_i64 (n : Int) (k : D → Prop) : wrW .i64 n k = (inR .i64 n ∧ k (.int .i64 n)) := _root_.id rfl
theorem wrW_i32 (n : Int) (k : D → Prop) : wrW .i32 n k = (inR .i32 n ∧ k (.int .i32 n)) := _root_.id rfl
theorem wrW_u64 (n : Int) (k : D → Prop) : wrW .u64 n k = k (.int .u64 (IntKind.u64.wrap n)) := _root_.id rfl
theorem wrW_u32 (n : Int) (k : D → Prop) : wrW .u32 n k = k (.int .u32 (IntKind.u32.wrap n)) := _root_.id rfl
theorem wrW_u16 (n : Int) (k : D → Prop) : wrW .u16 n k = k (.int .u16 (IntKind.u16.wrap n)) := _root_.id rfl
theorem wrW_u8 (n : Int) (k : D → Prop) : wrW .u8 n k = k (.int .u8 (IntKind.u8.wrap n)) := _root_.id rfl
theorem wrW_ok {kk : IntKind} {n : Int} {k : D → Prop} (h : wrW kk n k) : inR kk (kk.wrap n) ∧ k (.int kk (kk.wrap n)) := by
  refine ⟨inR_wrap kk n, ?_⟩
  cases kk <;> first | exact h | (rw [wrap_of_inR h.1]; exact h.2)

def isSigned : IntKind → Bool
  | .i64 | .i32 | .i16 | .i8 => true
  | _ => false

def intW (op : BinOp) (kk : IntKind) (x y : Int) (k : D → Prop) : Prop :=
  match op with
  | .add => wrW kk (x + y) k
  | .sub => wrW kk (x - y) k
  | .mul => wrW kk (x * y) k
  | .quo => y ≠ 0 ∧ (if isSigned kk = true then inR kk (x.tdiv y) ∧ k (.int kk (x.tdiv y)) else k (.int kk (x / y)))
  | .rem => y ≠ 0 ∧ (if isSigned kk = true then k (.int kk (x.tmod y)) else k (.int kk (x % y)))
  | .and => k (.int kk (bits .and kk x y))
  | .or => k (.int kk (bits .or kk x y))
  | .xor => k (.int kk (bits .xor kk x y))
  | .andNot => k (.int kk (bits .andNot kk x y))
  | .eql => k (.bool (decide (x = y)))
  | .neq => k (.bool (decide (x ≠ y)))
  | .lss => k (.bool (decide (x < y)))
  | .leq => k (.bool (decide (x ≤ y)))
  | .gtr => k (.bool (decide (y < x)))
  | .geq => k (.bool (decide (y ≤ x)))
  | _ => False
section
variable (kk : IntKind) (x y : Int) (k : D → Prop)
theorem intW_add : intW .add kk x y k = wrW kk (x + y) k := rfl
theorem intW_sub : intW .sub kk x y k = wrW kk (x - y) k := rfl
theorem intW_mul : intW .mul kk x y k = wrW kk (x * y) k := rfl
theorem intW_quo_i64 : intW .quo .i64 x y k = (y ≠ 0 ∧ inR .i64 (x.tdiv y) ∧ k (.int .i64 (x.tdiv y))) := rfl
theorem intW_quo_u64 : intW .quo .u64 x y k = (y ≠ 0 ∧ k (.int .u64 (x / y))) := rfl
theorem intW_quo_u32 : intW .quo .u32 x y k = (y ≠ 0 ∧ k (.int .u32 (x / y))) := rfl
theorem intW_quo_u8 : intW .quo .u8 x y k = (y ≠ 0 ∧ k (.int .u8 (x / y))) := rfl
theorem intW_rem_i64 : intW .rem .i64 x y k = (y ≠ 0 ∧ k (.int .i64 (x.tmod y))) := rfl
theorem intW_rem_u64 : intW .rem .u64 x y k = (y ≠ 0 ∧ k (.int .u64 (x % y))) := rfl
theorem intW_rem_u32 : intW .rem .u32 x y k = (y ≠ 0 ∧ k (.int .u32 (x % y))) := rfl
theorem intW_rem_u8 : intW .rem .u8 x y k = (y ≠ 0 ∧ k (.int .u8 (x % y))) := rfl
theorem intW_and : intW .and kk x y k = k (.int kk (bits .and kk x y)) := rfl
theorem intW_or : intW .or kk x y k = k (.int kk (bits .or kk x y)) := rfl
theorem intW_xor : intW .xor kk x y k = k (.int kk (bits .xor kk x y)) := rfl
theorem intW_andNot : intW .andNot kk x y k = k (.int kk (bits .andNot kk x y)) := rfl
theorem intW_eql : intW .eql kk x y k = k (.bool (decide (x = y))) := rfl
theorem intW_neq : intW .neq kk x y k = k (.bool (decide (x ≠ y))) := rfl
theorem intW_lss : intW .lss kk x y k = k (.bool (decide (x < y))) := rfl
theorem intW_leq : intW .leq kk x y k = k (.bool (decide (x ≤ y))) := rfl
theorem intW_gtr : intW .gtr kk x y k = k (.bool (decide (y < x))) := rfl
theorem intW_geq : intW .geq kk x y k = k (.bool (decide (y ≤ x))) := rfl
end

theorem inR_bits (op : BinOp) (kk : IntKind) (x y : Int) : inR kk (bits op kk x y) := inR_wrap _ _

theorem inR_le {kk : IntKind} {a b : Int} (h : inR kk a) (h0 : 0 ≤ b) (h1 : b ≤ a) : inR kk b := by
  have hm : kk.min ≤ 0 := by cases kk <;> decide
  exact ⟨Int.le_trans hm h0, Int.le_trans h1 h.2⟩

theorem tdiv_unsigned {kk : IntKind} {x y : Int} (hk : isSigned kk = false) (hx : inR kk x) (hy : inR kk y) (h0 : y ≠ 0) : kk.wrap (x.tdiv y) = x / y ∧ inR kk (x / y) ∧ x.tmod y = x % y ∧ inR kk (x % y) := by
  have hx0 : 0 ≤ x := by cases kk <;> simp [isSigned] at hk <;> exact hx.1
  have hy0 : 0 ≤ y := by cases kk <;> simp [isSigned] at hk <;> exact hy.1
  have h1 := IntWalk.tdiv_le x y hx0 (by omega)
  have h2 : 0 ≤ x % y := Int.emod_nonneg _ h0
  have h3 : x % y < y := Int.emod_lt_of_pos _ (by omega)
  have hq : inR kk (x / y) := inR_le hx h1.1 h1.2
  refine ⟨?_, hq, IntWalk.rem_in x y hx0, ?_⟩
  · rw [Int.tdiv_eq_ediv_of_nonneg hx0]; exact wrap_of_inR hq
  · exact inR_le hy h2 (by omega)

theorem tmod_signed {kk : IntKind} {x y : Int} (hk : isSigned kk = true) (hx : inR kk x) : inR kk (x.tmod y) := by
  have h1 : (x.tmod y).natAbs ≤ x.natAbs := by
    rw [Int.natAbs_tmod]; exact Nat.mod_le _ _
  have h2 : 0 ≤ x → 0 ≤ x.tmod y := fun h => Int.tmod_nonneg y h
  have h3 : x ≤ 0 → x.tmod y ≤ 0 := fun h => by
    have := Int.tmod_nonneg y (show 0 ≤ -x by omega)
    rw [Int.neg_tmod] at this; omega
  have h4 : (0 ≤ x → x.tmod y ≤ x) ∧ (x ≤ 0 → x ≤ x.tmod y) := by omega
  clear h1
  cases kk <;> simp [isSigned] at hk <;> simp only [inR, IntKind.min, IntKind.max, IntKind.signed, IntKind.bits] at * <;> simp at * <;> omega

theorem beqI (x y : Int) : (x == y) = decide (x = y) := Bool.eq_iff_iff.2 (by simp)
theorem bneI (x y : Int) : (x != y) = decide (x ≠ y) := Bool.eq_iff_iff.2 (by simp)

/-- The machine's two operands of one kind, and what comes of them. -/
theorem intW_ok {P : Program} {w : World} {op : BinOp} {kk : IntKind} {x y : Int} {k : D → Prop} (hx : inR kk x) (hy : inR kk y) (h : intW op kk x y k) (hop : op ≠ .shl) (hop' : op ≠ .shr) (t : TypeId) :
    ∃ v d, (binOp op t (.int kk x) (.int kk y)).run P w = .ok v w ∧ k d ∧ ∀ F, RepR w F v d := by
  cases op <;> simp only [intW] at h <;> first | (exact (hop rfl).elim) | (exact (hop' rfl).elim) | (exact h.elim) | skip
  case add => exact ⟨_, _, by simp [binOp, Op.intArith], (wrW_ok h).2, fun F => .int (wrW_ok h).1.1 (wrW_ok h).1.2⟩
  case sub => exact ⟨_, _, by simp [binOp, Op.intArith], (wrW_ok h).2, fun F => .int (wrW_ok h).1.1 (wrW_ok h).1.2⟩
  case mul => exact ⟨_, _, by simp [binOp, Op.intArith], (wrW_ok h).2, fun F => .int (wrW_ok h).1.1 (wrW_ok h).1.2⟩
  case quo =>
    obtain ⟨h0, h⟩ := h
    by_cases hsg : isSigned kk = true
    · rw [if_pos hsg] at h
      refine ⟨.int kk (x.tdiv y), _, ?_, h.2, fun F => .int h.1.1 h.1.2⟩
      simp [binOp, Op.intDiv, h0, wrap_of_inR h.1]
    · rw [if_neg hsg] at h
      obtain ⟨e1, e2, e3, e4⟩ := tdiv_unsigned (by simpa using hsg) hx hy h0
      refine ⟨.int kk (x / y), _, ?_, h, fun F => .int e2.1 e2.2⟩
      simp [binOp, Op.intDiv, h0, e1]
  case rem =>
    obtain ⟨h0, h⟩ := h
    by_cases hsg : isSigned kk = true
    · rw [if_pos hsg] at h
      have := tmod_signed (y := y) hsg hx
      refine ⟨.int kk (x.tmod y), _, ?_, h, fun F => .int this.1 this.2⟩
      simp [binOp, Op.intDiv, h0]
    · rw [if_neg hsg] at h
      obtain ⟨e1, e2, e3, e4⟩ := tdiv_unsigned (by simpa using hsg) hx hy h0
      refine ⟨.int kk (x % y), _, ?_, h, fun F => .int e4.1 e4.2⟩
      simp [binOp, Op.intDiv, h0, e3]
  case and => exact ⟨_, _, by simp only [binOp, ne_eq, not_true_eq_false, if_false]; rfl, h, fun F => .int (inR_bits .and kk x y).1 (inR_bits .and kk x y).2⟩
  case or => exact ⟨_, _, by simp only [binOp, ne_eq, not_true_eq_false, if_false]; rfl, h, fun F => .int (inR_bits .or kk x y).1 (inR_bits .or kk x y).2⟩
  case xor => exact ⟨_, _, by simp only [binOp, ne_eq, not_true_eq_false, if_false]; rfl, h, fun F => .int (inR_bits .xor kk x y).1 (inR_bits .xor kk x y).2⟩
  case andNot => exact ⟨_, _, by simp only [binOp, ne_eq, not_true_eq_false, if_false]; rfl, h, fun F => .int (inR_bits .andNot kk x y).1 (inR_bits .andNot kk x y).2⟩
  case eql => exact ⟨.bool (decide (x = y)), _, by simp only [binOp, Op.intCmp, beqI, ne_eq, not_true_eq_false, if_false, Sem.run_pure], h, fun F => .bool⟩
  case neq => exact ⟨.bool (decide (x ≠ y)), _, by simp only [binOp, Op.intCmp, bneI, ne_eq, not_true_eq_false, if_false, Sem.run_pure], h, fun F => .bool⟩
  case lss => exact ⟨.bool (decide (x < y)), _, by simp [binOp, Op.intCmp], h, fun F => .bool⟩
  case leq => exact ⟨.bool (decide (x ≤ y)), _, by simp [binOp, Op.intCmp], h, fun F => .bool⟩
  case gtr => exact ⟨.bool (decide (y < x)), _, by simp [binOp, Op.intCmp], h, fun F => .bool⟩
  case geq => exact ⟨.bool (decide (y ≤ x)), _, by simp [binOp, Op.intCmp], h, fun F => .bool⟩

/-! ### Shifts -/
def shlI (kk : IntKind) (x y : Int) : Int := kk.wrap (x * 2 ^ (min y.toNat kk.bits))
def shrI (kk : IntKind) (x y : Int) : Int := x / 2 ^ (min y.toNat kk.bits)

theorem inR_shr {kk : IntKind} {x y : Int} (h : inR kk x) : inR kk (shrI kk x y) := by
  unfold shrI
  have hp : (0 : Int) < 2 ^ (min y.toNat kk.bits) := Int.pow_pos (by decide)
  generalize (2 : Int) ^ (min y.toNat kk.bits) = m at *
  have h1 : 0 ≤ x → 0 ≤ x / m ∧ x / m ≤ x := fun h0 => ⟨Int.ediv_nonneg h0 (by omega), Int.ediv_le_self _ h0⟩
  have h2 : x < 0 → x ≤ x / m ∧ x / m < 0 := fun h0 => ⟨by
      have := Int.ediv_mul_le x (show m ≠ 0 by omega)
      have h3 : x / m < 0 := Int.ediv_neg_of_neg_of_pos h0 hp
      have : x * m ≤ x := by
        have h := Int.mul_nonneg (show 0 ≤ -x by omega) (show 0 ≤ m - 1 by omega)
        rw [Int.neg_mul, Int.mul_sub, Int.mul_one] at h
        omega
      exact (Int.le_ediv_iff_mul_le hp).2 this, Int.ediv_neg_of_neg_of_pos h0 hp⟩
  by_cases h0 : 0 ≤ x
  · exact inR_le h (h1 h0).1 (h1 h0).2
  · have := h2 (by omega)
    have hm : 0 ≤ kk.max := by cases kk <;> decide
    exact ⟨Int.le_trans h.1 this.1, by omega⟩

def isSh : BinOp → Bool
  | .shl | .shr => true
  | _ => false

/-! ### Strings -/
def strW (op : BinOp) (a b : List UInt8) (k : D → Prop) : Prop :=
  match op with
  | .add => a.length + b.length ≤ maxLen ∧ k (.str (a ++ b))
  | .eql => k (.bool (decide (a = b)))
  | .neq => k (.bool (decide (a ≠ b)))
  | .lss => k (.bool (Op.bytesLess a b))
  | _ => False
theorem strW_add (a b : List UInt8) (k : D → Prop) : strW .add a b k = (a.length + b.length ≤ maxLen ∧ k (.str (a ++ b))) := rfl
theorem strW_eql (a b : List UInt8) (k : D → Prop) : strW .eql a b k = k (.bool (decide (a = b))) := rfl
theorem strW_neq (a b : List UInt8) (k : D → Prop) : strW .neq a b k = k (.bool (decide (a ≠ b))) := rfl

theorem ba_toList (s : ByteArray) : s.toList = s.data.toList := ByteArray.toList_eq s
theorem ba_size (s : ByteArray) : s.size = s.data.toList.length := by cases s; rfl

theorem strW_ok {P : Program} {w : World} {op : BinOp} {x y : ByteArray} {a b : List UInt8} {k : D → Prop} (hx : x.data.toList = a) (hy : y.data.toList = b) (h : strW op a b k) (t : TypeId) :
    ∃ v d, (binOp op t (.string x) (.string y)).run P w = .ok v w ∧ k d ∧ ∀ F, RepR w F v d := by
  subst hx; subst hy
  cases op <;> simp only [strW] at h <;> first | (exact h.elim) | skip
  case add =>
    refine ⟨.string (x ++ y), _, ?_, h.2, fun F => .str (by simp) (by simpa using h.1)⟩
    have h1 := h.1
    simp only [maxLen] at h1
    have : ¬ (((x.size + y.size : Nat) : Int) > IntKind.i64.max) := by
      have : IntKind.i64.max = 9223372036854775807 := by decide
      rw [this, ba_size, ba_size]
      omega
    simp only [binOp, Op.stringOp, if_neg this, Sem.run_pure]
  case eql => exact ⟨.bool (x.data.toList == y.data.toList), _, by simp only [binOp, Op.stringOp, ba_toList, Sem.run_pure], h, fun F => by rw [show (x.data.toList == y.data.toList) = decide (x.data.toList = y.data.toList) from Bool.eq_iff_iff.2 (by simp)]; exact .bool⟩
  case neq => exact ⟨.bool (!(x.data.toList == y.data.toList)), _, by simp only [binOp, Op.stringOp, ba_toList, Sem.run_pure], h, fun F => by rw [show (!(x.data.toList == y.data.toList)) = decide (x.data.toList ≠ y.data.toList) from Bool.eq_iff_iff.2 (by simp)]; exact .bool⟩
  case lss => exact ⟨.bool _, _, by simp only [binOp, Op.stringOp, ba_toList, Sem.run_pure], h, fun F => .bool⟩

#print axioms intW_ok
#print axioms strW_ok
end Go.Abs
