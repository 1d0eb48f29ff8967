/-
  AN ABSTRACT WALK, twentieth text: a contract for a slice serves a full slice, and a nil one.
-/
import Derived.Test.YtccipobbdohdpaaDoorAbs19
namespace Go.Abs
open Go.RowKit (Below)

/- What reads as the first reads as the second. -/
mutual
inductive DW : D → D → Prop
  | refl (d : D) : DW d d
  | slx (sz n : Nat) (cs : List D) : DW (.slx sz n cs) (.sl sz n cs)
  | nils (sz : Nat) : DW .nils (.sl sz 0 [])
  | agg {ds ds' : List D} : LW ds' ds → DW (.agg ds') (.agg ds)
inductive LW : List D → List D → Prop
  | nil : LW [] []
  | cons {d d' : D} {r r' : List D} : DW d' d → LW r' r → LW (d' :: r') (d :: r)
end
mutual
theorem DW.rep {w : World} {F : Nat → Prop} : ∀ {d d' : D}, DW d' d → ∀ {v : Value}, RepR w F v d' → RepR w F v d
  | _, _, .refl _, _, hr => hr
  | _, _, .slx sz n cs, _, hr => by
    cases hr with
    | slx0 => exact .sl0 (by simp [maxLen])
    | slx g a b c d e f => exact .sl g a b (Nat.le_refl _) c d e f
  | _, _, .nils sz, _, hr => by cases hr; exact .sl0 (by simp [maxLen])
  | _, _, .agg h, _, hr => by
    have hg := LW.get (w := w) (F := F) h
    cases hr with
    | agg a b c =>
      refine .agg (a.trans hg.1) b fun i v d hv hd => ?_
      obtain ⟨d', h1, h2⟩ := hg.2 i d hd
      exact h2 v (c i v d' hv h1)
theorem LW.get {w : World} {F : Nat → Prop} : ∀ {ds ds' : List D}, LW ds' ds → ds'.length = ds.length ∧ ∀ (i : Nat) (d : D), ds[i]? = some d → ∃ d', ds'[i]? = some d' ∧ ∀ v, RepR w F v d' → RepR w F v d
  | _, _, .nil => ⟨rfl, fun i d h => by simp at h⟩
  | _, _, .cons h1 h2 => by
    have ih := LW.get (w := w) (F := F) h2
    refine ⟨by simp [ih.1], fun i d h => ?_⟩
    cases i with
    | zero => simp at h; subst h; exact ⟨_, rfl, fun v hv => h1.rep hv⟩
    | succ i => obtain ⟨d', q1, q2⟩ := ih.2 i d (by simpa using h); exact ⟨d', by simpa using q1, q2⟩
end
theorem LW.args {w : World} {F : Nat → Prop} {ds ds' : List D} {vs : List Value} (h : LW ds' ds) (ha : FArgs w F vs ds') : FArgs w F vs ds := by
  refine ⟨ha.1.trans (h.get (w := w) (F := F)).1, fun i v d hv hd => ?_⟩
  obtain ⟨d', q1, q2⟩ := (h.get (w := w) (F := F)).2 i d hd
  exact q2 v (ha.2 i v d' hv q1)
theorem Fn.weak {G : Glob} {P : Program} {f : FuncId} {ds ds' : List D} {d : D} (h : Fn G P f ds d) (hw : LW ds' ds) : Fn G P f ds' d :=
  ⟨h.1, fun b0 vs hG hL ha => h.2 b0 vs hG hL (hw.args ha)⟩
theorem FnS.weak {G : Glob} {P : Program} {f : FuncId} {ds ds' : List D} {sz n : Nat} {cs : List D} (h : FnS G P f ds sz n cs) (hw : LW ds' ds) : FnS G P f ds' sz n cs :=
  ⟨h.1, fun b0 vs hG hL ha => h.2 b0 vs hG hL (hw.args ha)⟩
theorem Fn.x1 {G : Glob} {P : Program} {f : FuncId} {sz n : Nat} {cs : List D} {d : D} (h : Fn G P f [.sl sz n cs] d) : Fn G P f [.slx sz n cs] d := h.weak (.cons (.slx _ _ _) .nil)
theorem FnS.x1 {G : Glob} {P : Program} {f : FuncId} {sz n s' n' : Nat} {cs c' : List D} (h : FnS G P f [.sl sz n cs] s' n' c') : FnS G P f [.slx sz n cs] s' n' c' := h.weak (.cons (.slx _ _ _) .nil)
theorem Fn.x2 {G : Glob} {P : Program} {f : FuncId} {sz n : Nat} {cs : List D} {d e : D} (h : Fn G P f [e, .sl sz n cs] d) : Fn G P f [e, .slx sz n cs] d := h.weak (.cons (.refl _) (.cons (.slx _ _ _) .nil))
theorem Fn.inp {G : Glob} {P : Program} {f : FuncId} {ds ds' : List D} {d : D} (h : Fn G P f ds d) (e : ds = ds') : Fn G P f ds' d := e ▸ h
theorem Fn.out {G : Glob} {P : Program} {f : FuncId} {ds : List D} {d d' : D} (h : Fn G P f ds d) (e : d = d') : Fn G P f ds d' := e ▸ h
end Go.Abs
