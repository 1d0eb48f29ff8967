/-
  EXTEND, plain laws: chains of decisions of one object.
-/
import Derived.Test.YtaakjjhifhjbfaaDoorL1
import Derived.Test.YtaakjjhifhjbfaaDoorV1
namespace Go.Abs
open Go.Proofs
/-- A plea of which the first houses have voted on the last tick. -/
def chP (c : Cn) (t u : Int) (i : Nat) : Pl := ⟨7, t, u, t, (c.hs.take i).map fun h => blt c ⟨7, t, u, t, []⟩ h t true⟩
theorem chP_add {c : Cn} {t u : Int} {i : Nat} (h : rgtP c (chP c t u i)) (hi : i < c.hs.length) :
    vtE c (chP c t u i) (blt c ⟨7, t, u, t, []⟩ c.hs[i] t true) = 0 ∧ vtP c (chP c t u i) (blt c ⟨7, t, u, t, []⟩ c.hs[i] t true) = chP c t u (i + 1) ∧ rgtP c (chP c t u (i + 1)) := by
  have hv : voE c (chP c t u i) (blt c ⟨7, t, u, t, []⟩ c.hs[i] t true) = 0 := by
    refine vo_yes (List.getElem_mem hi) ?_ (Int.le_refl _) (lst_le (Int.le_refl _) ?_) rfl
    · intro x hx e
      unfold chP at hx
      obtain ⟨y, hy, rfl⟩ := List.mem_map.1 hx
      obtain ⟨j, hj, ej⟩ := List.mem_take_iff_getElem.1 hy
      have e2 : y = c.hs[i] := e
      rw [← ej] at e2
      have := okC_inj h.1 e2
      omega
    · intro x hx
      unfold chP at hx
      obtain ⟨y, hy, rfl⟩ := List.mem_map.1 hx
      exact Int.le_refl _
  have e : (⟨(chP c t u i).o, (chP c t u i).l, (chP c t u i).u, (chP c t u i).n, (chP c t u i).v ++ [blt c ⟨7, t, u, t, []⟩ c.hs[i] t true]⟩ : Pl) = chP c t u (i + 1) := by
    unfold chP; rw [takeS hi, List.map_append]; rfl
  have h1 := rgt_add h hv
  have h2 := vt_yes h hv
  rw [e] at h1 h2
  exact ⟨h2.1, h2.2, h1⟩
theorem chP_rgt {c : Cn} {t u : Int} (hc : okC c) (h0 : 0 ≤ t) (h1 : t < u) (h2 : u ≤ 1000000) (h3 : u - t ≤ c.bd) : ∀ i, i ≤ c.hs.length → rgtP c (chP c t u i) := by
  intro i
  induction i with
  | zero => intro _; exact rgt_open hc ⟨show (0 : Int) ≤ 7 by decide, show (7 : Int) ≤ 1099511627776 by decide, h0, Int.le_refl _, h1, h2, h3⟩
  | succ i ih => intro h; exact (chP_add (ih (by omega)) (by omega)).2.2
theorem chP_yes (c : Cn) (t u : Int) : ∀ l : List Int, yesN (l.map fun h => blt c ⟨7, t, u, t, []⟩ h t true) = l.length
  | [] => rfl
  | x :: r => by
    have := chP_yes c t u r
    unfold yesN at *
    simp only [List.map_cons, List.sum_cons, List.length_cons]
    rw [this]
    show flg true + _ = _
    unfold flg; rw [if_pos rfl]; omega
def chM (c : Cn) (t u : Int) : Pl := chP c t u c.hs.length
theorem chM_dec {c : Cn} {t u : Int} (h : rgtP c (chM c t u)) : dcE c (chM c t u) t = 0 ∧ dcN c (chM c t u) t = u := by
  have hy : yesN (chM c t u).v = c.hs.length := by
    unfold chM chP; rw [List.take_length]; exact chP_yes c t u c.hs
  have hn := h.1.1.2.2.2.2.1
  have hl : lstT (chM c t u) ≤ t := lst_le (Int.le_refl _) fun x hx => by
    unfold chM chP at hx
    obtain ⟨y, hy, rfl⟩ := List.mem_map.1 hx
    exact Int.le_refl _
  have e : dcE c (chM c t u) t = 0 := by
    unfold dcE
    rw [if_pos h.1, if_pos h, if_neg (show ¬ (chM c t u).l < t from Int.lt_irrefl t), if_neg (by omega), if_neg (by omega)]
  exact ⟨e, by unfold dcN; rw [if_pos e]; rfl⟩
def lastF (c : Cn) (more : List Nat) : Nat → Int
  | 0 => 10
  | k + 1 => lastF c more k + 1 + ((more.getD k 0 : Nat) : Int).tmod c.bd
theorem lastF_s {c : Cn} (hc : okC c) (more : List Nat) (k : Nat) : lastF c more k < lastF c more (k + 1) ∧ lastF c more (k + 1) - lastF c more k ≤ c.bd := by
  have := hc.1.2.2.2.2.2.1
  have h1 : 0 ≤ ((more.getD k 0 : Nat) : Int).tmod c.bd := Int.tmod_nonneg _ (by omega)
  have h2 : ((more.getD k 0 : Nat) : Int).tmod c.bd < c.bd := Int.tmod_lt_of_pos _ (by omega)
  show _ < lastF c more k + 1 + _ ∧ lastF c more k + 1 + _ - _ ≤ _
  omega
theorem lastF_le {c : Cn} (hc : okC c) (more : List Nat) : ∀ k, 10 ≤ lastF c more k
  | 0 => Int.le_refl _
  | k + 1 => by have := lastF_le hc more k; have := lastF_s hc more k; omega
theorem lastF_up {c : Cn} (hc : okC c) (more : List Nat) {j : Nat} : ∀ {k}, j ≤ k → lastF c more j ≤ lastF c more k := by
  intro k
  induction k with
  | zero => intro h; rw [show j = 0 by omega]; exact Int.le_refl _
  | succ k ih =>
    intro h
    by_cases g : j = k + 1
    · rw [g]; exact Int.le_refl _
    · have := ih (by omega); have := lastF_s hc more k; omega
def plK (c : Cn) (more : List Nat) (k : Nat) : Pl := chM c (lastF c more k) (lastF c more (k + 1))
def chF (c : Cn) (more : List Nat) : Nat → List UInt8
  | 0 => zeroD
  | k + 1 => recD (chF c more k) (plK c more k) (lastF c more k)
theorem chF_len (c : Cn) (more : List Nat) : ∀ k, (chF c more k).length = 16
  | 0 => rfl
  | _ + 1 => recD_len _ _ _
def xF (c : Cn) (more : List Nat) (k : Nat) : Xt := ⟨plK c more k, lastF c more k, chF c more (k + 1), recD_len _ _ _⟩
def lF (c : Cn) (more : List Nat) (k : Nat) : List Xt := (List.range k).map (xF c more)
theorem lF_len (c : Cn) (more : List Nat) (k : Nat) : (lF c more k).length = k := by unfold lF; rw [List.length_map, List.length_range]
theorem lF_s (c : Cn) (more : List Nat) (k : Nat) : lF c more (k + 1) = lF c more k ++ [xF c more k] := by unfold lF; rw [List.range_succ, List.map_append]; rfl
theorem lF_at {c : Cn} {more : List Nat} {k j : Nat} (h : j < k) : (lF c more k)[j]? = some (xF c more j) := by
  unfold lF; rw [List.getElem?_map, List.getElem?_range h]; rfl
theorem lF_take {c : Cn} {more : List Nat} {k j : Nat} (h : j ≤ k) : (lF c more k).take j = lF c more j := by
  unfold lF; rw [← List.map_take, List.take_range, Nat.min_eq_left h]
theorem plK_rgt {c : Cn} (hc : okC c) {more : List Nat} {k : Nat} (h : lastF c more (k + 1) ≤ 1000000) : rgtP c (plK c more k) :=
  chP_rgt hc (by have := lastF_le hc more k; omega) (lastF_s hc more k).1 h (lastF_s hc more k).2 _ (Nat.le_refl _)
theorem lF_lastU {c : Cn} {more : List Nat} {a : Nat} : lastU (lF c more (a + 1)) 7 = some (lastF c more (a + 1)) := by
  rw [lF_s, lastU_app]; exact if_pos rfl
theorem lF_bef {c : Cn} {more : List Nat} {a : Nat} (r : List Xt) : ∀ j, j ≤ a → befD (lF c more a ++ r) j = chF c more j
  | 0, _ => rfl
  | j + 1, h => by
    show ((((lF c more a ++ r)[j]?).map Xt.d).getD zeroD) = _
    rw [List.getElem?_append_left (by rw [lF_len]; omega), lF_at (by omega)]; rfl
theorem lF_ok {c : Cn} (hc : okC c) {more : List Nat} {a : Nat} (r : List Xt) (h : lastF c more a ≤ 1000000) : ∀ j, j < a → xtAt c (lF c more a ++ r) j = 0 := by
  intro j hj
  have h1 : (lF c more a ++ r)[j]? = some (xF c more j) := by rw [List.getElem?_append_left (by rw [lF_len]; omega), lF_at hj]
  have h2 : (lF c more a ++ r).take j = lF c more j := by rw [List.take_append_of_le_length (by rw [lF_len]; omega), lF_take (by omega)]
  have hd := chM_dec (plK_rgt hc (k := j) (Int.le_trans (lastF_up hc more (show j + 1 ≤ a by omega)) h))
  unfold xtAt
  rw [h1]
  show xtE c _ j (xF c more j) _ = 0
  unfold xtE
  rw [lF_bef r j (by omega), h2, if_pos (show (xF c more j).d = recD (chF c more j) (xF c more j).p (xF c more j).t from rfl), if_pos (show dcE c (xF c more j).p (xF c more j).t = 0 from hd.1)]
  cases j with
  | zero => rfl
  | succ j => rw [show (xF c more (j + 1)).p.o = 7 from rfl, lF_lastU]; exact if_pos rfl
theorem lF_vf {c : Cn} (hc : okC c) {more : List Nat} {a : Nat} (h : lastF c more a ≤ 1000000) : vfR c (lF c more a) = ((a : Int), 0) := by
  have := lF_ok hc (more := more) (a := a) [] h
  rw [List.append_nil] at this
  rw [vfR_all hc (by rw [lF_len]; exact this), lF_len]
/-- The chain without one place, the digests made anew. -/
def xG (c : Cn) (more : List Nat) (k : Nat) (b : List UInt8) : Xt := ⟨plK c more k, lastF c more k, recD b (plK c more k) (lastF c more k), recD_len _ _ _⟩
def gF (c : Cn) (more : List Nat) (at' : Nat) : Nat → List Xt × List UInt8
  | 0 => ([], zeroD)
  | k + 1 => if k = at' ∧ 0 < at' then gF c more at' k else ((gF c more at' k).1 ++ [xG c more k (gF c more at' k).2], recD (gF c more at' k).2 (plK c more k) (lastF c more k))
theorem gF_lo {c : Cn} {more : List Nat} {a : Nat} : ∀ k, k ≤ a ∨ a = 0 → gF c more a k = (lF c more k, chF c more k)
  | 0, _ => rfl
  | k + 1, h => by
    unfold gF
    rw [if_neg (by omega), gF_lo k (by omega), lF_s]; rfl
theorem gF_hi {c : Cn} {more : List Nat} {a : Nat} (ha : 0 < a) : ∀ k, a + 2 ≤ k → ∃ r, (gF c more a k).1 = lF c more a ++ xG c more (a + 1) (chF c more a) :: r ∧ r.length + a + 2 = k
  | 0, h => by omega
  | k + 1, h => by
    unfold gF
    rw [if_neg (by omega)]
    by_cases g : k = a + 1
    · subst g
      refine ⟨[], ?_, by simp⟩
      unfold gF
      rw [if_pos ⟨rfl, ha⟩, gF_lo a (.inl (Nat.le_refl _))]
    · obtain ⟨r, h1, h2⟩ := gF_hi (c := c) (more := more) ha k (by omega)
      refine ⟨r ++ [xG c more k (gF c more a k).2], ?_, by simp; omega⟩
      show (gF c more a k).1 ++ _ = _
      rw [h1, List.append_assoc]; rfl
theorem gF_len {c : Cn} {more : List Nat} {a : Nat} : ∀ k, (gF c more a k).1.length = if 0 < a ∧ a < k then k - 1 else k
  | 0 => by rw [if_neg (by omega)]; rfl
  | k + 1 => by
    have ih := @gF_len c more a k
    unfold gF
    by_cases g : k = a ∧ 0 < a
    · rw [if_pos g, ih, if_neg (by omega), if_pos (by omega)]; omega
    · rw [if_neg g, List.length_append, ih]
      simp only [List.length_cons, List.length_nil]
      by_cases g2 : 0 < a ∧ a < k
      · rw [if_pos g2, if_pos (by omega)]; omega
      · rw [if_neg g2, if_neg (by omega)]
theorem gF_blen {c : Cn} {more : List Nat} {a : Nat} : ∀ k, (gF c more a k).2.length = 16
  | 0 => rfl
  | k + 1 => by
    unfold gF; split
    · exact gF_blen k
    · exact recD_len _ _ _
theorem gF_vf {c : Cn} (hc : okC c) {more : List Nat} {a n : Nat} (ha : a + 2 ≤ n) (h : lastF c more n ≤ 1000000) :
    vfR c (gF c more a n).1 = if a = 0 then ((n : Int), 0) else ((a : Int), 4) := by
  by_cases g : a = 0
  · rw [if_pos g, gF_lo n (.inr g)]; exact lF_vf hc h
  rw [if_neg g]
  obtain ⟨r, e, hr⟩ := gF_hi (c := c) (more := more) (show 0 < a by omega) n ha
  rw [e]
  have h2 : lastF c more (a + 1 + 1) ≤ 1000000 := Int.le_trans (lastF_up hc more ha) h
  have hd := chM_dec (plK_rgt hc (k := a + 1) h2)
  have e4 : xtAt c (lF c more a ++ xG c more (a + 1) (chF c more a) :: r) a = 4 := by
    unfold xtAt
    rw [List.getElem?_append_right (by rw [lF_len]; omega), lF_len, Nat.sub_self]
    show xtE c _ a (xG c more (a + 1) (chF c more a)) _ = 4
    unfold xtE
    rw [lF_bef _ a (Nat.le_refl _), if_pos (show (xG c more (a + 1) (chF c more a)).d = recD (chF c more a) (xG c more (a + 1) (chF c more a)).p (xG c more (a + 1) (chF c more a)).t from rfl), if_pos (show dcE c (xG c more (a + 1) (chF c more a)).p (xG c more (a + 1) (chF c more a)).t = 0 from hd.1), List.take_append_of_le_length (by rw [lF_len]; omega), lF_take (Nat.le_refl _)]
    obtain ⟨b, rfl⟩ : ∃ b, a = b + 1 := ⟨a - 1, by omega⟩
    rw [show (xG c more (b + 1 + 1) (chF c more (b + 1))).p.o = 7 from rfl, lF_lastU]
    refine if_neg ?_
    show ¬ lastF c more (b + 1) = lastF c more (b + 1 + 1)
    have := lastF_s hc more (b + 1); omega
  have := vfR_bad hc (l := lF c more a ++ xG c more (a + 1) (chF c more a) :: r) (k := a) (by simp [lF_len]) (lF_ok hc _ (Int.le_trans (lastF_up hc more (by omega)) h)) (by rw [e4]; decide)
  rw [this, e4]
end Go.Abs

