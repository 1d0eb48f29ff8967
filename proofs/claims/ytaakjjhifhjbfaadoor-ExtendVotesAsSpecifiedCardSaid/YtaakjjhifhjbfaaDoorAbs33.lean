/-
  AN ABSTRACT WALK: a sum that may be cut, in a region of a text of its own.
-/
import Derived.Test.YtaakjjhifhjbfaaDoorAbs30
namespace Go.Abs
open Go.RowKit (Below)

def addX (dx dy : D) (k : D → Prop) : Prop :=
  match dx, dy with
  | .int .i64 a, .int .i64 b => k (.int .i64 (IntKind.i64.wrap (a + b)))
  | _, _ => False
theorem addX_int (a b : Int) (k : D → Prop) : addX (.int .i64 a) (.int .i64 b) k = k (.int .i64 (IntKind.i64.wrap (a + b))) := _root_.id rfl
section
variable {P : Program} {G : Glob} {w0 : Bas}
theorem opsA_ok (hG : GOk G w0) {ops rest : List Oper} {i : Nat} {t yt ty : TypeId} {x y : Operand} {pos : String} {f : Array Edge} {Q : Exit → Act → World → Prop} : ∀ {l : List Oper} {S : St} {a : Act} {w : World} {φ : Loc} {k : St → Prop}, SatC w0 φ S a.tmps w →
    opsW G P ops l S (fun S => evW G S x fun dx => evW G S y fun dy => addX dx dy fun d => putW (some i) d S fun S => opsW G P ops rest S k) →
    (∀ S' a' w' φ', k S' → SatC w0 φ' S' a'.tmps w' → S'.n = S.n → a'.defers = a.defers → Q .normal a' w') → wpListIn (fw none) 0 P ops.toArray Q (l ++ ⟨some i, .binOp .add t x y yt, ty, pos, f, none⟩ :: rest) a w
  | [], S, a, w, φ, k, hs, h, hn => by
    rw [List.nil_append]
    unfold wpListIn
    rw [if_pos (by rfl)]
    have h : evW G S x fun dx => evW G S y fun dy => addX dx dy fun d => putW (some i) d S fun S => opsW G P ops rest S k := h
    obtain ⟨dx, h, hx⟩ := evW_ok hG hs h
    obtain ⟨dy, h, hy⟩ := evW_ok hG hs h
    unfold addX at h
    split at h
    · rename_i p q _
      obtain ⟨ex, _⟩ := hx.int_inv
      obtain ⟨ey, _⟩ := hy.int_inv
      refine wp_val (fun c h => by cases h) (v := .int .i64 (IntKind.i64.wrap (p + q))) (w' := w) (by simp [execOp, ex, ey, eqGuard, binOp, Op.intArith]) ?_
      obtain ⟨S3, h3, n3, hs3⟩ := putW_ok hs (v := .int .i64 (IntKind.i64.wrap (p + q))) (.ro (.int (inR_wrap .i64 (p + q)).1 (inR_wrap .i64 (p + q)).2)) h
      exact opsW_ok hG (a := a.put (some i) (.int .i64 (IntKind.i64.wrap (p + q)))) (hs3 a.defers) h3 fun S' a' w' φ' hk hs' hnn hd => hn S' a' w' φ' hk hs' (by rw [hnn, n3]) (by rw [hd, put_defers])
    · exact h.elim
  | o :: l, S, a, w, φ, k, hs, h, hn => by
    rw [List.cons_append]
    unfold wpListIn
    rcases grdW_ok hs h with ⟨hw, S1, h1, n1, hs1⟩ | ⟨hw, S1, h1, n1, hs1⟩
    · rw [if_pos hw]
      refine opW_ok hG hs1 o h1 ?_
      rintro v w' ⟨φ', d, S2, h2, hs2, hr, n2⟩
      obtain ⟨S3, h3, n3, hs3⟩ := putW_ok hs2 hr h2
      exact opsA_ok hG (a := a.put o.dst v) (hs3 a.defers) h3 fun S' a' w' φ' hk hs' hnn hd => hn S' a' w' φ' hk hs' (by rw [hnn, n3, n2, n1]) (by rw [hd, put_defers])
    · rw [if_neg (by rw [hw]; simp)]
      obtain ⟨S3, h3, n3, hs3⟩ := putW_ok hs1 (v := undef) (.ro (.tup (ds := []) rfl fun i v d hv => by simp at hv)) h1
      refine ⟨fun _ _ => trivial, ?_⟩
      exact opsA_ok hG (a := a.put o.dst undef) (hs3 a.defers) h3 fun S' a' w' φ' hk hs' hnn hd => hn S' a' w' φ' hk hs' (by rw [hnn, n3, n1]) (by rw [hd, put_defers])
end
theorem Snd.add {G : Glob} {P : Program} (m : Nat) {id i : Nat} {ops rest : List Oper} {t yt ty : TypeId} {x y : Operand} {pos : String} {f : Array Edge}
    (he : ops.drop m = ⟨some i, .binOp .add t x y yt, ty, pos, f, none⟩ :: rest) :
    Snd G P (.region id ops.toArray false) fun S K => opsW G P ops (ops.take m) S fun S => evW G S x fun dx => evW G S y fun dy => addX dx dy fun d => putW (some i) d S fun S => opsW G P ops rest S (K .nrm) := by
  intro w0 S a w φ K Q hG hs h q
  refine wpIn_region_list ?_
  simp only [List.toList_toArray]
  have := opsA_ok (Q := Q) (t := t) (yt := yt) (ty := ty) (pos := pos) (f := f) hG hs h fun S' a' w' φ' hk hs' hn hd => q.nrm hk hs' hn hd
  rw [← he, List.take_append_drop] at this
  exact this
end Go.Abs
