/-
  AN ABSTRACT WALK: package variables that a row lists: from the row's condition to what a contract may read.
-/
import Derived.Test.YtaakjjhifhjbfaaDoorAbs29
import Derived.Test.YtaakjjhifhjbfaaDoorAbs24
import Derived.Lib.LaidTab
namespace Go.Abs
open Go.ChangeShapes Go.WideShapes Go.RowKit

theorem Fn.glob {G G' : Glob} {P : Program} {f : FuncId} {ds : List D} {d : D} (h : Fn G' P f ds d) (hs : ∀ g cs, lk g G' = some cs → lk g G = some cs) : Fn G P f ds d :=
  ⟨h.1, fun b0 vs hG hL ha => h.2 ⟨b0.w, b0.base, G', b0.new, b0.lent, b0.loc, b0.loc0, b0.lb, fun g cs hg => b0.gok g cs (by rw [hG]; exact hs g cs hg)⟩ vs rfl hL ha⟩

/-- The row's cells as what is read. -/
theorem glob_tab {P : Program} {W : World} {name : String} {k : IntKind} {zs : List Int} {g : Nat} (h : Lib.TabIs P W name k zs) (hg : P.globalNamed name = some g) (hz : 0 < zs.length) (hr : ∀ z ∈ zs, k.min ≤ z ∧ z ≤ k.max) :
    RepR W (fun b => b < W.heap.size) (.pointer (some ⟨g, 0, none⟩)) (.rop (zs.map (D.int k)) 0) := by
  have hc : ∀ j, j < zs.length → W.cell? ⟨g, j, none⟩ = some (.int k (zs.getD j 0)) := fun j hj => h.cell hg j hj
  refine .rop (base := 0) (off := 0) (fun j => .int k (zs.getD j 0)) ?_ (fun j hj => ⟨by rw [Nat.zero_add]; exact hc j (by simpa using hj), rfl⟩) (fun j d hd => ?_)
  · rcases Nat.lt_or_ge g W.heap.size with h1 | h1
    · exact h1
    · have := hc 0 hz
      simp [World.cell?, Array.getElem?_eq_none h1] at this
  · simp only [List.getElem?_map] at hd
    cases hj : zs[j]? with
    | none => simp [hj] at hd
    | some z =>
      simp only [hj, Option.map_some, Option.some.injEq] at hd
      subst hd
      have e : zs.getD j 0 = z := by simp [List.getD_eq_getElem?_getD, hj]
      rw [e]
      have := hr z (List.mem_of_getElem? hj)
      exact .int this.1 this.2

variable {P : Program} {H : Type} {enc : TypeId × Value → H}
theorem contract_ofG {G : Glob} (hl : laidOutB P = true) {fn : Func} {f : FuncId} {s : ChangeSpec} (hr : fn.params.toList.all (fun t => P.readableRec t && decide (t < P.types.size)) = true) {tb : TypeId} (hres : fn.resultTypes = #[tb]) (htb : P.underlying tb = some .bool) (hv : s.vars = [])
    {W : World} {args : Array Value} {ds gs : List (DataW H)} {before : List MemPlace} (hW : DataW.Whole enc P fn.params.toList s.vars false W args.toList ds gs before) (hout : (s.fn H ds).results = [.lit (.bool true)] ∧ (s.fn H ds).args = ds ∧ (s.fn H ds).vars = [])
    {ds' : List D} (ha : FArgs W (fun b => b < W.heap.size) args.toList ds') (hg : ∀ g cs, lk g G = some cs → RepR W (fun b => b < W.heap.size) (.pointer (some ⟨g, 0, none⟩)) (.rop cs 0))
    (hfn : Fn G P f ds' (.bool true)) : Calls P f args W fun e W' => ∃ v, e = .returned v ∧ s.post enc P fn false true false false W args v W' := by
  have hW' := hW
  obtain ⟨p, q, hA, hV, rfl, hfz, hnd⟩ := hW
  rw [hv] at hV
  obtain ⟨rfl, rfl⟩ := trodVars_none hV
  let b0 : Bas := ⟨W, ⟨fun _ => True, fun _ _ => none⟩, G, fun _ _ => trivial, fun _ => False, fun _ => (none, 0), fun _ => rfl, fun _ h => h.elim, fun g cs h => (hg g cs h).mono (fun _ _ => rfl) fun b hb => ⟨trivial, hb, fun h => h⟩⟩
  have hc := hfn.2 b0 args.toList rfl (fun _ h => h) ⟨ha.1, fun i v d h1 h2 => (ha.2 i v d h1 h2).mono (fun _ _ => rfl) fun b hb => ⟨trivial, hb⟩⟩
  refine hc.mono fun e W' ⟨v, he, hrep, hb⟩ => ⟨v, he, ?_⟩
  obtain rfl : v = .bool true := by cases hrep; rfl
  refine ⟨ds, [], _, [], p, [], hW', ?_, ?_, ?_, hb.frame _, fun h => by cases h⟩
  · rw [hres, List.append_nil, hout.1]
    exact trodAll_mk1 (shut_bool htb _)
  · rw [List.append_nil, hout.2.1]
    exact trodAll_below hl hb hr hA
  · rw [List.append_nil, hv, hout.2.2]
    rfl
end Go.Abs
