/-
  AN ABSTRACT WALK, twenty-fourth text: what the reader's data say of lists of strings; small helpers for the claims.
-/
import Derived.Test.YtaakjjhifhjbfaaDoorAbs23
import Derived.SliceStrings
namespace Go.Abs
open Go.ChangeShapes Go.WideShapes Go.RowKit

section
variable {H : Type} {enc : TypeId × Value → H} {P : Program} {w : World}
theorem trodAll_len {base : Nat} {spare : Nat → Bool} {held : Bool} : ∀ {ts : List TypeId} {vs : List Value} {ds : List (DataW H)} {ps : List MemPlace}, DataW.TrodAll enc P w base spare held ts vs ds ps → ds.length = ts.length
  | [], vs, ds, ps, h => by cases vs <;> cases ds <;> simp_all [DataW.TrodAll]
  | t :: ts, vs, ds, ps, h => by
    obtain ⟨v, vs', d, ds', p, q, rfl, rfl, rfl, _, h2⟩ := trodAll_cons h
    simp [trodAll_len h2]

theorem strs_read {t e : TypeId} {v : Value} {d : DataW H} {p : List MemPlace} {F : Nat → Prop} {x : List (List UInt8)} (ht : P.underlying t = some (.slice e)) (he : P.underlying e = some .string) (hc : P.cellsOf e = 1)
    (h : DataW.Trod enc P w 0 (fun _ => true) true t v d p) (hr : RepR w F v (.sl 1 x.length (x.map D.str))) : x = [] ∨ ∃ (elems : List ByteArray) (spare : List (DataW H)), d = .slice (strs elems) spare ∧ x = elems.map (fun s => s.data.toList) := by
  obtain ⟨fuel, hf⟩ := h
  by_cases hx : x = []
  · exact .inl hx
  have hxl : 0 < x.length := List.length_pos_iff.2 hx
  right
  generalize hn : x.length = n at hr
  generalize hm : x.map D.str = cs at hr
  cases hr with
  | sl0 => omega
  | @sl a c sz n cs g hsp hb hle hcm hlen hcell hrep =>
    rcases open_strings ht he hc hf with ⟨hcs, _⟩ | ⟨a', len, cap, ss, hcs, _, hl, _, hz, hx2, hcell2, _⟩
    · simp [Value.cells] at hcs
    · simp [Value.cells] at hcs
      obtain ⟨rfl, rfl, rfl⟩ := hcs
      simp only [if_true] at hz
      refine ⟨ss.take n, strs (ss.drop n), by have := congrArg Prod.fst hx2; simpa using this, ?_⟩
      apply List.ext_getElem
      · simp; omega
      · intro i h1 h2
        have hi : i < n := by omega
        have e1 := (hcell i (by omega)).1
        have e2 := hcell2 i (by omega)
        rw [addr_add' hsp] at e2
        rw [e1] at e2
        have hd : cs[i]? = some (D.str x[i]) := by rw [← hm]; simp [h1]
        have e3 := hrep i _ hd
        rw [Option.some.inj e2] at e3
        cases e3 with
        | str hb _ =>
          rw [List.getElem_map, List.getElem_take, ← hb]
          congr 2
          have hi2 : i < ss.length := by omega
          simp [List.getD_eq_getElem?_getD, List.getElem?_eq_getElem hi2]
end
theorem flat1 {α : Type} (f : α → D) (xs : List α) : List.flatMap (fun x => [f x]) xs = xs.map f := by
  induction xs with
  | nil => rfl
  | cons x r ih => simp [ih]
theorem wt_of {l : List Nat} (h : l.all (· ≤ reachBytes) = true) : ∀ n ∈ l, n ≤ reachBytes := fun n hn => by
  have := List.all_eq_true.1 h n hn
  simpa using this
#print axioms strs_read
end Go.Abs
