/-
  EXTEND, plain laws for the laws: votes one behind the other; what two orders of votes agree on.
-/
import Derived.Test.YtaakjjhifhjbfaaDoorE4
namespace Go.Abs
open Go.Proofs
theorem rgt_add {c : Cn} {m : Pl} {v : Bl} (h : rgtP c m) (hv : voE c m v = 0) : rgtP c ⟨m.o, m.l, m.u, m.n, m.v ++ [v]⟩ := by
  refine ⟨h.1, h.2.1, fun k hk => ?_⟩
  by_cases e : k < m.v.length
  · have e1 : cutP ⟨m.o, m.l, m.u, m.n, m.v ++ [v]⟩ k = cutP m k := by
      unfold cutP; simp only [List.take_append_of_le_length (Nat.le_of_lt e)]
    rw [e1]
    have e2 : (m.v ++ [v])[k]'(by simpa using hk) = m.v[k] := List.getElem_append_left e
    show voE c (cutP m k) ((m.v ++ [v])[k]'(by simpa using hk)) = 0
    rw [e2]; exact h.2.2 k e
  · have e0 : k = m.v.length := by
      simp only [List.length_append, List.length_cons, List.length_nil] at hk; omega
    subst e0
    have e1 : cutP ⟨m.o, m.l, m.u, m.n, m.v ++ [v]⟩ m.v.length = m := by
      unfold cutP; simp
    rw [e1]
    have e2 : (m.v ++ [v])[m.v.length]'(by simp) = v := by simp
    show voE c m ((m.v ++ [v])[m.v.length]'(by simp)) = 0
    rw [e2]; exact hv
theorem vt_yes {c : Cn} {m : Pl} {v : Bl} (h : rgtP c m) (hv : voE c m v = 0) : vtE c m v = 0 ∧ vtP c m v = ⟨m.o, m.l, m.u, m.n, m.v ++ [v]⟩ := by
  have e : vtE c m v = 0 := by unfold vtE; rw [if_pos h.1, if_pos h, hv]
  exact ⟨e, if_pos e⟩
theorem rgt_open {c : Cn} {o l u n : Int} (hc : okC c) (h : frmP c ⟨o, l, u, n, []⟩) : rgtP c ⟨o, l, u, n, []⟩ := ⟨hc, h, fun k hk => by simp at hk⟩
theorem op_yes {c : Cn} {o l u n : Int} (hc : okC c) (h : frmP c ⟨o, l, u, n, []⟩) : opE c o l u n = 0 ∧ opP c o l u n = ⟨o, l, u, n, []⟩ := by
  have e : opE c o l u n = 0 := by
    unfold opE; rw [if_pos hc, if_neg (by have := h.2.2.2.1; simp only at this; omega), if_pos h]
  exact ⟨e, if_pos e⟩
theorem fIdx_neg {α : Type} {p : α → Bool} {xs : List α} : fIdx p xs < 0 ↔ xs.any p = false := by
  unfold fIdx
  cases e : xs.findIdx? p with
  | none =>
    refine ⟨fun _ => ?_, fun _ => by decide⟩
    rw [List.findIdx?_eq_none_iff] at e
    simpa using e
  | some i =>
    obtain ⟨h, h1, h2⟩ := List.findIdx?_eq_some_iff_getElem.1 e
    refine ⟨fun h => by simp only at h; omega, fun g => ?_⟩
    rw [List.any_eq_false] at g
    exact absurd h1 (g _ (List.getElem_mem h))
theorem seat_mem {hs : List Int} {h : Int} : 0 ≤ seatI hs h ↔ h ∈ hs := by
  have := @fIdx_neg _ (fun x => decide (x = h)) hs
  unfold seatI
  constructor
  · intro g
    have g2 : ¬ hs.any (fun x => decide (x = h)) = false := fun e => by have := this.2 e; omega
    simpa using g2
  · intro g
    have g2 : ¬ hs.any (fun x => decide (x = h)) = false := by simpa using g
    have g3 : ¬ fIdx (fun x => decide (x = h)) hs < 0 := fun e => g2 (this.1 e)
    omega
theorem okC_srt {c : Cn} (hc : okC c) : ∀ (j i : Nat) (_ : i < j) (hj : j < c.hs.length), (c.hs[i]'(by omega)) < c.hs[j] := by
  intro j
  induction j with
  | zero => intro i h; omega
  | succ j ih =>
    intro i h hj
    have hb := hc.2 (j + 1) hj
    unfold badAt at hb
    have e1 : c.hs.getD (j + 1) 0 = c.hs[j + 1] := getD_at hj
    have e2 : c.hs.getD (j + 1 - 1) 0 = c.hs[j]'(by omega) := getD_at (by omega)
    have h1 : c.hs[j]'(by omega) < c.hs[j + 1] := by omega
    by_cases g : i = j
    · subst g; exact h1
    · have := ih i (by omega) (by omega); omega
theorem okC_inj {c : Cn} (hc : okC c) {i j : Nat} {hi : i < c.hs.length} {hj : j < c.hs.length} (h : c.hs[i] = c.hs[j]) : i = j := by
  rcases Nat.lt_trichotomy i j with g | g | g
  · have := okC_srt hc j i g hj; omega
  · exact g
  · have := okC_srt hc i j g hi; omega
/-- A vote with its seal. -/
def blt (c : Cn) (m : Pl) (h t : Int) (y : Bool) : Bl := ⟨h, t, y, sealD c m h t y, sealD_len c m h t y⟩
theorem vo_yes {c : Cn} {m m0 : Pl} {h t : Int} {y : Bool} (h1 : h ∈ c.hs) (h2 : ∀ x ∈ m.v, x.h ≠ h) (h3 : t ≤ m.l) (h4 : lstT m ≤ t) (h5 : sealD c m0 h t y = sealD c m h t y) : voE c m (blt c m0 h t y) = 0 := by
  have g1 := seat_mem.2 h1
  have g2 : ¬ (m.v.any fun x => decide (x.h = h)) = true := by simpa using h2
  unfold voE blt
  simp only
  rw [if_neg (by omega), if_neg g2, if_neg (by omega), if_neg (by omega), if_pos h5]
theorem yesN_app (a b : List Bl) : yesN (a ++ b) = yesN a + yesN b := by unfold yesN; rw [List.map_append, List.sum_append]
theorem yesN_perm {a b : List Bl} (h : a.Perm b) : yesN a = yesN b := by
  induction h with
  | nil => rfl
  | cons x _ ih => unfold yesN at *; simp only [List.map_cons, List.sum_cons]; omega
  | swap x y l => unfold yesN; simp only [List.map_cons, List.sum_cons]; omega
  | trans _ _ h1 h2 => exact h1.trans h2
theorem lst_le {m : Pl} {t : Int} (h0 : m.n ≤ t) (h : ∀ x ∈ m.v, x.t ≤ t) : lstT m ≤ t := by
  unfold lstT
  cases e : m.v.getLast? with
  | none => exact h0
  | some x => exact Int.max_le.2 ⟨h0, h x (List.mem_of_getLast? e)⟩

/-! forgetting the order -/
def mF : Pl := ⟨7, 50, 51, 40, []⟩
theorem mF_frm {c : Cn} (hc : okC c) : frmP c mF := by
  have := hc.1.2.2.2.2.2
  unfold frmP mF; simp only; omega
/-- The votes of some of the first houses. -/
def vsF (c : Cn) (ys : List Bool) (o : List Nat) : List Bl := o.map fun i => blt c mF (c.hs.getD i 0) 45 (ys.getD i false)
def plF (c : Cn) (ys : List Bool) (o : List Nat) : Pl := ⟨7, 50, 51, 40, vsF c ys o⟩
theorem plF_lst {c : Cn} {ys : List Bool} {o : List Nat} : lstT (plF c ys o) ≤ 45 :=
  lst_le (by unfold plF; simp) fun x hx => by
    unfold plF vsF at hx
    obtain ⟨i, _, rfl⟩ := List.mem_map.1 hx
    exact Int.le_refl _
theorem plF_vo {c : Cn} (hc : okC c) {ys : List Bool} {o : List Nat} (ho : ∀ i ∈ o, i < c.hs.length) {k : Nat} (hk : k < c.hs.length) (hn : k ∉ o) : voE c (plF c ys o) (blt c mF (c.hs.getD k 0) 45 (ys.getD k false)) = 0 := by
  refine vo_yes ?_ ?_ (by unfold plF; simp) plF_lst rfl
  · rw [getD_at hk]; exact List.getElem_mem hk
  · intro x hx
    unfold plF vsF at hx
    obtain ⟨i, hi, rfl⟩ := List.mem_map.1 hx
    show c.hs.getD i 0 ≠ c.hs.getD k 0
    rw [getD_at hk, getD_at (ho i hi)]
    intro e
    exact hn (okC_inj hc e ▸ hi)
theorem plF_add {c : Cn} {ys : List Bool} {o : List Nat} (h : rgtP c (plF c ys o)) (ho : ∀ i ∈ o, i < c.hs.length) {k : Nat} (hk : k < c.hs.length) (hn : k ∉ o) : rgtP c (plF c ys (o ++ [k])) ∧ vtE c (plF c ys o) (blt c mF (c.hs.getD k 0) 45 (ys.getD k false)) = 0 ∧ vtP c (plF c ys o) (blt c mF (c.hs.getD k 0) 45 (ys.getD k false)) = plF c ys (o ++ [k]) := by
  have hv := plF_vo h.1 (ys := ys) ho hk hn
  have e : (⟨(plF c ys o).o, (plF c ys o).l, (plF c ys o).u, (plF c ys o).n, (plF c ys o).v ++ [blt c mF (c.hs.getD k 0) 45 (ys.getD k false)]⟩ : Pl) = plF c ys (o ++ [k]) := by
    unfold plF vsF; simp
  have h1 := rgt_add h hv
  have h2 := vt_yes h hv
  rw [e] at h1 h2
  exact ⟨h1, h2.1, h2.2⟩
/-- Where a place is put into the order. -/
def atF (turn : List Nat) (k : Nat) : Nat := if k < turn.length then turn.getD k 0 % (k + 1) else 0
def ordF (turn : List Nat) : Nat → List Nat
  | 0 => []
  | k + 1 => (ordF turn k).take (atF turn k) ++ [k] ++ (ordF turn k).drop (atF turn k)
theorem atF_le (turn : List Nat) (k : Nat) : atF turn k ≤ k := by
  unfold atF; split
  · have := Nat.mod_lt (turn.getD k 0) (show 0 < k + 1 by omega); omega
  · omega
theorem ordF_perm (turn : List Nat) : ∀ k, (ordF turn k).Perm (List.range k)
  | 0 => .nil
  | k + 1 => by
    have ih := ordF_perm turn k
    rw [List.range_succ]
    show ((ordF turn k).take (atF turn k) ++ [k] ++ (ordF turn k).drop (atF turn k)).Perm _
    rw [List.append_assoc]
    refine (List.perm_middle (a := k) (l₁ := (ordF turn k).take (atF turn k)) (l₂ := (ordF turn k).drop (atF turn k))).trans ?_
    rw [List.take_append_drop]
    exact (ih.cons k).trans (List.perm_append_singleton k _).symm
theorem ordF_len (turn : List Nat) (k : Nat) : (ordF turn k).length = k := by rw [(ordF_perm turn k).length_eq, List.length_range]
theorem ordF_lt {turn : List Nat} {k i : Nat} (h : i ∈ ordF turn k) : i < k := List.mem_range.1 ((ordF_perm turn k).mem_iff.1 h)
theorem ordF_nd (turn : List Nat) (k : Nat) : (ordF turn k).Nodup := (ordF_perm turn k).nodup_iff.2 List.nodup_range
theorem nd_take {l : List Nat} (h : l.Nodup) {k : Nat} (hk : k < l.length) : l[k] ∉ l.take k := by
  intro hm
  obtain ⟨i, hi, e⟩ := List.mem_take_iff_getElem.1 hm
  have : i = k := (List.getElem_inj h).1 e
  omega
theorem plF_dec {c : Cn} {ys : List Bool} {a b : List Nat} (h : a.Perm b) (ha : rgtP c (plF c ys a)) (hb : rgtP c (plF c ys b)) : yesN (plF c ys a).v = yesN (plF c ys b).v ∧ (plF c ys a).v.length = (plF c ys b).v.length ∧ dcE c (plF c ys a) 46 = dcE c (plF c ys b) 46 ∧ dcN c (plF c ys a) 46 = dcN c (plF c ys b) 46 := by
  have h1 : yesN (plF c ys a).v = yesN (plF c ys b).v := yesN_perm (h.map _)
  have h2 : (plF c ys a).v.length = (plF c ys b).v.length := (h.map _).length_eq
  have la := @plF_lst c ys a
  have lb := @plF_lst c ys b
  have h3 : dcE c (plF c ys a) 46 = dcE c (plF c ys b) 46 := by
    unfold dcE
    rw [if_pos ha.1, if_pos ha.1, if_pos ha, if_pos hb, if_neg (show ¬ 46 < lstT (plF c ys a) by omega), if_neg (show ¬ 46 < lstT (plF c ys b) by omega), h1]
    rfl
  refine ⟨h1, h2, h3, ?_⟩
  unfold dcN; rw [h3]; rfl
end Go.Abs

