/-
  AN ABSTRACT WALK, twentieth text: a contract for a slice serves a full slice, and a nil one.
-/
import Derived.Test.YtkhjapkjhjkdiaaAbs19
namespace Go.Abs
open Go.RowKit (Below)

/-- What reads as the first reads as the second. -/
inductive DW : D → D → Prop
  | refl (d : D) : DW d d
  | slx (sz n : Nat) (cs : List D) : DW (.slx sz n cs) (.sl sz n cs)
  | nils (sz : Nat) : DW .nils (.sl sz 0 [])
inductive LW : List D → List D → Prop
  | nil : LW [] []
  | cons {d d' : D} {r r' : List D} : DW d' d → LW r' r → LW (d' :: r') (d :: r)
theorem DW.rep {w : World} {F : Nat → Prop} {v : Value} {d d' : D} (h : DW d' d) (hr : RepR w F v d') : RepR w F v d := by
  cases h with
  | refl => exact hr
  | slx sz n cs => cases hr with
    | slx0 => exact .sl0 (by simp [maxLen])
    | slx g a b c d e f => exact .sl g a b (Nat.le_refl _) c d e f
  | nils sz => cases hr; exact .sl0 (by simp [maxLen])
theorem LW.args {w : World} {F : Nat → Prop} : ∀ {ds ds' : List D} {vs : List Value}, LW ds' ds → FArgs w F vs ds' → FArgs w F vs ds
  | _, _, _, .nil, h => h
  | _, _, [], .cons _ _, h => by have := h.1; simp at this
  | _, _, v :: vs, .cons h1 h2, h => by
    have ih := LW.args (vs := vs) h2 ⟨by have := h.1; simpa using this, fun i v d hv hd => h.2 (i + 1) v d (by simpa using hv) (by simpa using hd)⟩
    refine ⟨by have := ih.1; simp [this], fun i u e hu he => ?_⟩
    cases i with
    | zero => simp at hu he; subst hu; subst he; exact h1.rep (h.2 0 _ _ rfl rfl)
    | succ i => exact ih.2 i u e (by simpa using hu) (by simpa using he)
theorem Fn.weak {G : Glob} {P : Program} {f : FuncId} {ds ds' : List D} {d : D} (h : Fn G P f ds d) (hw : LW ds' ds) : Fn G P f ds' d :=
  ⟨h.1, fun b0 vs hG ha => h.2 b0 vs hG (hw.args ha)⟩
theorem FnS.weak {G : Glob} {P : Program} {f : FuncId} {ds ds' : List D} {sz n : Nat} {cs : List D} (h : FnS G P f ds sz n cs) (hw : LW ds' ds) : FnS G P f ds' sz n cs :=
  ⟨h.1, fun b0 vs hG ha => h.2 b0 vs hG (hw.args ha)⟩
theorem Fn.x1 {G : Glob} {P : Program} {f : FuncId} {sz n : Nat} {cs : List D} {d : D} (h : Fn G P f [.sl sz n cs] d) : Fn G P f [.slx sz n cs] d := h.weak (.cons (.slx _ _ _) .nil)
theorem FnS.x1 {G : Glob} {P : Program} {f : FuncId} {sz n s' n' : Nat} {cs c' : List D} (h : FnS G P f [.sl sz n cs] s' n' c') : FnS G P f [.slx sz n cs] s' n' c' := h.weak (.cons (.slx _ _ _) .nil)
theorem Fn.x2 {G : Glob} {P : Program} {f : FuncId} {sz n : Nat} {cs : List D} {d e : D} (h : Fn G P f [e, .sl sz n cs] d) : Fn G P f [e, .slx sz n cs] d := h.weak (.cons (.refl _) (.cons (.slx _ _ _) .nil))
theorem Fn.inp {G : Glob} {P : Program} {f : FuncId} {ds ds' : List D} {d : D} (h : Fn G P f ds d) (e : ds = ds') : Fn G P f ds' d := e ▸ h
theorem Fn.out {G : Glob} {P : Program} {f : FuncId} {ds : List D} {d d' : D} (h : Fn G P f ds d) (e : d = d') : Fn G P f ds d' := e ▸ h
end Go.Abs
