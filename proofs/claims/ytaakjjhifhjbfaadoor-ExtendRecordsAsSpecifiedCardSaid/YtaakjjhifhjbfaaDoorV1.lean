/-
  EXTEND, plain laws for a chain of decisions.
-/
import Derived.Test.YtaakjjhifhjbfaaDoorE2
import Derived.Test.YtaakjjhifhjbfaaDoorAbs31
namespace Go.Abs
open Go.Proofs
theorem lastU_app (l : List Xt) (x : Xt) (o : Int) : lastU (l ++ [x]) o = if x.p.o = o then some x.p.u else lastU l o := by
  unfold lastU
  rw [List.filter_append]
  by_cases h : x.p.o = o
  · rw [if_pos h]; simp [h]
  · rw [if_neg h]; simp [h]
theorem lkM_app (h : List (Int × Int)) (p : Int × Int) (k : Int) : lkM (h ++ [p]) k = if p.1 = k then some p.2 else lkM h k := by
  unfold lkM; rw [List.foldl_append]; rfl
/-- What the map of a chain's objects has taken. -/
def untH (l : List Xt) (i : Nat) : List (Int × Int) := (l.take i).map fun x => (x.p.o, x.p.u)
theorem untH_s {l : List Xt} {i : Nat} (h : i < l.length) : untH l (i + 1) = untH l i ++ [(l[i].p.o, l[i].p.u)] := by
  unfold untH; rw [takeS h, List.map_append]; rfl
theorem untH_lk (l : List Xt) (o : Int) : ∀ i, i ≤ l.length → lkM (untH l i) o = lastU (l.take i) o := by
  intro i
  induction i with
  | zero => intro _; rfl
  | succ i ih =>
    intro h
    rw [untH_s (by omega), lkM_app, takeS (show i < l.length by omega), lastU_app, ih (by omega)]
/-- The last place of an object among the first ones; -1. -/
def lastJ (l : List Xt) (o : Int) : Nat → Int
  | 0 => -1
  | i + 1 => if (l[i]?).map (fun x => x.p.o) = some o then (i : Int) else lastJ l o i
theorem lastJ_ok (l : List Xt) (o : Int) : ∀ i, i ≤ l.length → (lastJ l o i = -1 ∧ lastU (l.take i) o = none) ∨ ∃ (j : Nat) (hj : j < i) (hl : j < l.length), lastJ l o i = (j : Int) ∧ lastU (l.take i) o = some l[j].p.u := by
  intro i
  induction i with
  | zero => intro _; exact .inl ⟨rfl, rfl⟩
  | succ i ih =>
    intro h
    have hi : i < l.length := by omega
    rw [takeS hi, lastU_app]
    unfold lastJ
    rw [List.getElem?_eq_getElem hi, Option.map_some]
    by_cases g : l[i].p.o = o
    · rw [if_pos (by rw [g]), if_pos g]
      exact .inr ⟨i, by omega, hi, rfl, rfl⟩
    · rw [if_neg (by simpa using g), if_neg g]
      rcases ih (by omega) with h1 | ⟨j, hj, hl, h1⟩
      · exact .inl h1
      · exact .inr ⟨j, by omega, hl, h1⟩
theorem lastJ_le (l : List Xt) (o : Int) : ∀ i : Nat, -1 ≤ lastJ l o i ∧ lastJ l o i < i
  | 0 => by unfold lastJ; omega
  | i + 1 => by
    have := lastJ_le l o i
    unfold lastJ; split <;> omega
/-- The error of a chain's place. -/
def xtAt (c : Cn) (l : List Xt) (k : Nat) : Int := match l[k]? with | none => 0 | some x => xtE c l k x (befD l k)
theorem xtAt_in {c : Cn} {l : List Xt} {k : Nat} (h : k < l.length) : xtAt c l k = xtE c l k l[k] (befD l k) := by
  unfold xtAt; rw [List.getElem?_eq_getElem h]
def vfR (c : Cn) (l : List Xt) : Int × Int :=
  if okC c then (match (List.range l.length).find? (fun k => decide (xtAt c l k ≠ 0)) with | some k => ((k : Int), xtAt c l k) | none => ((l.length : Int), 0)) else (0, 1)
theorem vfR_no {c : Cn} {l : List Xt} (h : ¬ okC c) : vfR c l = (0, 1) := if_neg h
theorem vfR_bad {c : Cn} {l : List Xt} (hc : okC c) {k : Nat} (hk : k < l.length) (h0 : ∀ j, j < k → xtAt c l j = 0) (h : xtAt c l k ≠ 0) : vfR c l = ((k : Int), xtAt c l k) := by
  have e : (List.range l.length).find? (fun k => decide (xtAt c l k ≠ 0)) = some k := by
    rw [List.find?_range_eq_some]
    exact ⟨by simpa using h, List.mem_range.2 hk, fun j hj => by simpa using h0 j hj⟩
  unfold vfR; rw [if_pos hc, e]
theorem vfR_all {c : Cn} {l : List Xt} (hc : okC c) (h0 : ∀ j, j < l.length → xtAt c l j = 0) : vfR c l = ((l.length : Int), 0) := by
  have e : (List.range l.length).find? (fun k => decide (xtAt c l k ≠ 0)) = none := by
    rw [List.find?_range_eq_none]
    exact fun j hj => by simpa using h0 j hj
  unfold vfR; rw [if_pos hc, e]
theorem befD_s {l : List Xt} {k : Nat} (h : k < l.length) : befD l (k + 1) = l[k].d := by
  show ((l[k]?).map Xt.d).getD zeroD = _
  rw [List.getElem?_eq_getElem h]; rfl
theorem befD_len (l : List Xt) : ∀ k, (befD l k).length = 16
  | 0 => by rfl
  | k + 1 => by
    show (((l[k]?).map Xt.d).getD zeroD).length = 16
    cases e : l[k]? with
    | none => rfl
    | some x => exact x.hd
end Go.Abs

