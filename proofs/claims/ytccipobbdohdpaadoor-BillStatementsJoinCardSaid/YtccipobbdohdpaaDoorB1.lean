/-
  BILL, the plain laws: books, errors, balances, statements, totals.
-/
import Derived.Test.YtccipobbdohdpaaDoorH9
namespace Go.Abs
open Go.Proofs
structure Po where
  d : Int
  c : Int
  a : Int
  t : Int
  w : Int
  r : Int
instance : DecidableEq Po := fun p q =>
  if h : p.d = q.d ∧ p.c = q.c ∧ p.a = q.a ∧ p.t = q.t ∧ p.w = q.w ∧ p.r = q.r then .isTrue (by
    obtain ⟨_, _, _, _, _, _⟩ := p; obtain ⟨_, _, _, _, _, _⟩ := q; simp only at h; obtain ⟨rfl, rfl, rfl, rfl, rfl, rfl⟩ := h; rfl)
  else .isFalse (by rintro rfl; exact h ⟨rfl, rfl, rfl, rfl, rfl, rfl⟩)
theorem po_eq {p q : Po} : p = q ↔ p.d = q.d ∧ p.c = q.c ∧ p.a = q.a ∧ p.t = q.t ∧ p.w = q.w ∧ p.r = q.r :=
  ⟨fun h => by subst h; exact ⟨rfl, rfl, rfl, rfl, rfl, rfl⟩, fun h => by
    obtain ⟨_, _, _, _, _, _⟩ := p; obtain ⟨_, _, _, _, _, _⟩ := q; simp only at h; obtain ⟨rfl, rfl, rfl, rfl, rfl, rfl⟩ := h; rfl⟩
/-- A posting's cells. -/
def poC (p : Po) : List D := [.int .i64 p.d, .int .i64 p.c, .int .i64 p.a, .int .i64 p.t, .int .i64 p.w, .int .i64 p.r]
def bkC (acc : Int) (ps : List Po) : List D := [.int .i64 acc, .sl 6 ps.length (List.flatMap poC ps)]
def badP (acc : Int) (p : Po) : Prop := p.d < 0 ∨ acc ≤ p.d ∨ p.c < 0 ∨ acc ≤ p.c ∨ p.d = p.c
def outP (p : Po) : Prop := p.a < 1 ∨ 1099511627776 < p.a ∨ p.t < 0 ∨ 1000000 < p.t ∨ p.w < 1 ∨ 7 < p.w ∨ p.r < 0 ∨ 1099511627776 < p.r
instance (acc : Int) (p : Po) : Decidable (badP acc p) := by unfold badP; infer_instance
instance (p : Po) : Decidable (outP p) := by unfold outP; infer_instance
def chkP (acc : Int) : Int → List Po → Int
  | _, [] => 0
  | last, p :: r => if badP acc p then 1 else if outP p then 3 else if p.t < last then 15 else chkP acc p.t r
def chkB (acc : Int) (ps : List Po) : Int := if acc < 1 ∨ 40 < acc then 3 else if 10000 < ps.length then 13 else chkP acc 0 ps
def lastT (ps : List Po) : Nat → Int
  | 0 => 0
  | i + 1 => (ps.map (·.t)).getD i 0
theorem lastT_s {ps : List Po} {i : Nat} (h : i < ps.length) : lastT ps (i + 1) = ps[i].t := by
  show (ps.map (·.t)).getD i 0 = _
  rw [List.getD_eq_getElem?_getD, List.getElem?_map, List.getElem?_eq_getElem h]; rfl
theorem chkP_s {acc : Int} {ps : List Po} {i : Nat} (h : i < ps.length) : chkP acc (lastT ps i) (ps.drop i) =
    if badP acc ps[i] then 1 else if outP ps[i] then 3 else if ps[i].t < lastT ps i then 15 else chkP acc (lastT ps (i + 1)) (ps.drop (i + 1)) := by
  rw [List.drop_eq_getElem_cons h, lastT_s h]; rfl
def pOk (acc : Int) (p : Po) : Prop := ¬ badP acc p ∧ ¬ outP p
theorem chkP_ok {acc : Int} : ∀ {ps : List Po} {last : Int}, chkP acc last ps = 0 → (∀ p ∈ ps, pOk acc p) ∧ (∀ p ∈ ps, last ≤ p.t) ∧ ps.Pairwise (·.t ≤ ·.t)
  | [], _, _ => ⟨by simp, by simp, .nil⟩
  | p :: r, last, h => by
    unfold chkP at h
    split at h; · cases h
    rename_i h1
    split at h; · cases h
    rename_i h2
    split at h; · cases h
    rename_i h3
    obtain ⟨a, b, c⟩ := chkP_ok h
    refine ⟨fun q hq => ?_, fun q hq => ?_, .cons b c⟩
    · rcases List.mem_cons.1 hq with rfl | hq
      · exact ⟨h1, h2⟩
      · exact a q hq
    · rcases List.mem_cons.1 hq with rfl | hq
      · omega
      · have := b q hq; omega
structure BkOk (acc : Int) (ps : List Po) : Prop where
  a1 : 1 ≤ acc
  a2 : acc ≤ 40
  len : ps.length ≤ 10000
  ok : ∀ p ∈ ps, pOk acc p
  srt : ps.Pairwise (·.t ≤ ·.t)
theorem chkB_ok {acc : Int} {ps : List Po} (h : chkB acc ps = 0) : BkOk acc ps := by
  unfold chkB at h
  split at h; · cases h
  split at h; · cases h
  obtain ⟨a, _, c⟩ := chkP_ok h
  exact ⟨by omega, by omega, by omega, a, c⟩
/-! what an account gets -/
def gotP (x : Int) (p : Po) : Int := (if p.d = x then p.a else 0) - (if p.c = x then p.a else 0)
def balT (x tick : Int) (ps : List Po) : Int := ((ps.filter fun p => decide (p.t ≤ tick)).map (gotP x)).sum
theorem got_le {acc x : Int} {p : Po} (h : pOk acc p) : -1099511627776 ≤ gotP x p ∧ gotP x p ≤ 1099511627776 := by
  obtain ⟨h1, h2⟩ := h
  unfold badP at h1; unfold outP at h2; unfold gotP
  split <;> split <;> omega
theorem sum_le {α : Type} {f : α → Int} {m : Int} : ∀ {l : List α}, (∀ x ∈ l, -m ≤ f x ∧ f x ≤ m) → -((l.length : Int) * m) ≤ (l.map f).sum ∧ (l.map f).sum ≤ (l.length : Int) * m
  | [], _ => by simp
  | x :: l, h => by
    have h1 := h x (by simp)
    have h2 := sum_le (l := l) fun y hy => h y (by simp [hy])
    rw [List.map_cons, List.sum_cons, List.length_cons]
    have e : ((l.length + 1 : Nat) : Int) * m = (l.length : Int) * m + m := by rw [Int.natCast_add, Int.add_mul]; simp
    omega
theorem bal_le {acc x tick : Int} {ps : List Po} (h : BkOk acc ps) : -10995116277760000 ≤ balT x tick ps ∧ balT x tick ps ≤ 10995116277760000 := by
  have h1 := sum_le (f := gotP x) (m := 1099511627776) (l := ps.filter fun p => decide (p.t ≤ tick)) fun p hp => got_le (h.ok p ((List.mem_filter.1 hp).1))
  have h2 : (ps.filter fun p => decide (p.t ≤ tick)).length ≤ 10000 := Nat.le_trans (List.length_filter_le _ _) h.len
  unfold balT
  have h3 : ((ps.filter fun p => decide (p.t ≤ tick)).length : Int) * 1099511627776 ≤ 10000 * 1099511627776 := Int.mul_le_mul_of_nonneg_right (by omega) (by decide)
  omega
/-- The postings of an account, with their indices from k on. -/
def gP (x : Int) : Nat → List Po → List (Nat × Po)
  | _, [] => []
  | k, p :: r => if p.d = x ∨ p.c = x then (k, p) :: gP x (k + 1) r else gP x (k + 1) r
theorem gP_c (x : Int) (k : Nat) (p : Po) (r : List Po) : gP x k (p :: r) = if p.d = x ∨ p.c = x then (k, p) :: gP x (k + 1) r else gP x (k + 1) r := by rw [gP]
theorem tw_mem {α : Type} {q : α → Bool} {a : α} : ∀ {l : List α}, a ∈ l.takeWhile q → q a = true
  | [], h => by simp at h
  | b :: r, h => by
    rw [List.takeWhile_cons] at h
    split at h
    · rename_i e
      rcases List.mem_cons.1 h with rfl | h
      · exact e
      · exact tw_mem h
    · simp at h
theorem gP_app {x : Int} : ∀ (k : Nat) (l m : List Po), gP x k (l ++ m) = gP x k l ++ gP x (k + l.length) m
  | k, [], m => by simp [gP]
  | k, p :: r, m => by
    have h := gP_app (x := x) (k + 1) r m
    rw [List.cons_append, gP_c, gP_c, h, List.length_cons, show k + 1 + r.length = k + (r.length + 1) by omega]
    split <;> rfl
theorem gP_le {x : Int} : ∀ (k : Nat) (l : List Po), (gP x k l).length ≤ l.length
  | _, [] => by simp [gP]
  | k, p :: r => by
    have := gP_le (x := x) (k + 1) r
    unfold gP; split <;> simp <;> omega
theorem gP_sum {x : Int} (q : Po → Bool) : ∀ (k : Nat) (l : List Po), (((gP x k l).filter fun y => q y.2).map fun y => gotP x y.2).sum = ((l.filter q).map (gotP x)).sum
  | _, [] => by simp [gP]
  | k, p :: r => by
    have h := gP_sum (x := x) q (k + 1) r
    unfold gP; split
    · cases e : q p
      · rw [List.filter_cons_of_neg (by simpa using e), List.filter_cons_of_neg (by simpa using e), h]
      · rw [List.filter_cons_of_pos (by simpa using e), List.filter_cons_of_pos (by simpa using e), List.map_cons, List.sum_cons, h, List.map_cons, List.sum_cons]
    · rename_i g
      have hz : gotP x p = 0 := by unfold gotP; rw [if_neg (by omega), if_neg (by omega)]; rfl
      cases e : q p
      · rw [List.filter_cons_of_neg (by simpa using e), h]
      · rw [List.filter_cons_of_pos (by simpa using e), List.map_cons, List.sum_cons, h, hz, Int.zero_add]
theorem gP_mem {x : Int} : ∀ {k : Nat} {l : List Po} {y : Nat × Po}, y ∈ gP x k l → ∃ i, ∃ h : i < l.length, y = (k + i, l[i]) ∧ (l[i].d = x ∨ l[i].c = x)
  | _, [], _, h => by simp [gP] at h
  | k, p :: r, y, h => by
    unfold gP at h
    have hr : y ∈ gP x (k + 1) r → ∃ i, ∃ h : i < (p :: r).length, y = (k + i, (p :: r)[i]) ∧ ((p :: r)[i].d = x ∨ (p :: r)[i].c = x) := fun h => by
      obtain ⟨i, h1, h2, h3⟩ := gP_mem h
      exact ⟨i + 1, by simpa using h1, by rw [h2]; simp; omega, by simpa using h3⟩
    split at h
    · rename_i g
      rcases List.mem_cons.1 h with rfl | h
      · exact ⟨0, by simp, by simp, by simpa using g⟩
      · exact hr h
    · exact hr h
theorem gP_srt {x : Int} : ∀ {k : Nat} {l : List Po}, l.Pairwise (·.t ≤ ·.t) → (gP x k l).Pairwise fun y z => y.2.t ≤ z.2.t
  | _, [], _ => .nil
  | k, p :: r, h => by
    have h1 := gP_srt (x := x) (k := k + 1) (List.Pairwise.of_cons h)
    unfold gP; split
    · refine .cons (fun y hy => ?_) h1
      obtain ⟨i, hi, e, _⟩ := gP_mem hy
      rw [e]; exact List.rel_of_pairwise_cons h (List.getElem_mem hi)
    · exact h1
/-- The postings before a tick. -/
def bfL (bf : Int) (ps : List Po) : List Po := ps.takeWhile fun p => decide (p.t < bf)
theorem bf_take {bf : Int} : ∀ {ps : List Po} {i : Nat}, (∀ j, (h : j < ps.length) → j < i → ps[j].t < bf) → ps.take i <+: bfL bf ps
  | [], i, _ => by simp
  | p :: r, 0, _ => by simp
  | p :: r, i + 1, h => by
    have h0 := h 0 (by simp) (by omega)
    have h1 := bf_take (bf := bf) (ps := r) (i := i) fun j hj hi => h (j + 1) (by simpa using hj) (by omega)
    unfold bfL at h1 ⊢
    rw [List.take_succ_cons, List.takeWhile_cons, if_pos (by simpa using h0)]
    exact List.prefix_cons_inj p |>.2 h1
theorem bf_stop {bf : Int} : ∀ {ps : List Po} {i : Nat}, (∀ j, (h : j < ps.length) → j < i → ps[j].t < bf) → (∀ h : i < ps.length, bf ≤ ps[i].t) → bfL bf ps = ps.take i
  | [], i, _, _ => by simp [bfL]
  | p :: r, 0, _, h => by
    have := h (by simp)
    unfold bfL; rw [List.takeWhile_cons, if_neg (by simp at this ⊢; omega)]; rfl
  | p :: r, i + 1, h, h2 => by
    have h0 := h 0 (by simp) (by omega)
    have h1 := bf_stop (bf := bf) (ps := r) (i := i) (fun j hj hi => h (j + 1) (by simpa using hj) (by omega)) fun hi => h2 (by simpa using hi)
    unfold bfL at h1 ⊢
    rw [List.take_succ_cons, List.takeWhile_cons, if_pos (by simpa using h0), h1]
theorem bf_flt {bf : Int} : ∀ {ps : List Po}, ps.Pairwise (·.t ≤ ·.t) → bfL bf ps = ps.filter fun p => decide (p.t ≤ bf - 1)
  | [], _ => rfl
  | p :: r, h => by
    have h1 := bf_flt (bf := bf) (List.Pairwise.of_cons h)
    unfold bfL at h1 ⊢
    by_cases g : p.t < bf
    · rw [List.takeWhile_cons, if_pos (by simpa using g), List.filter_cons_of_pos (by simp; omega), h1]
    · rw [List.takeWhile_cons, if_neg (by simpa using g)]
      symm; rw [List.filter_eq_nil_iff]
      intro q hq
      rcases List.mem_cons.1 hq with rfl | hq
      · simp; omega
      · have := List.rel_of_pairwise_cons h hq
        simp; omega
/-- What 'of' yields. -/
def ofP (x bf : Int) (ps : List Po) : List (Nat × Po) := gP x 0 (bfL bf ps)
theorem ofP_mem {x bf : Int} {ps : List Po} {y : Nat × Po} (h : y ∈ ofP x bf ps) : ∃ h : y.1 < ps.length, y.2 = ps[y.1] ∧ (y.2.d = x ∨ y.2.c = x) ∧ y.2.t < bf := by
  obtain ⟨i, hi, e, h2⟩ := gP_mem h
  obtain ⟨r, hr⟩ : bfL bf ps <+: ps := List.takeWhile_prefix _
  have hl : i < ps.length := by rw [← hr]; simp; omega
  have e2 : ps[i] = (bfL bf ps)[i] := by
    have : ps[i]? = (bfL bf ps)[i]? := by conv => lhs; rw [← hr]
                                          exact List.getElem?_append_left hi
    rw [List.getElem?_eq_getElem hl, List.getElem?_eq_getElem hi] at this
    exact Option.some.inj this
  have h3 : (bfL bf ps)[i].t < bf := by
    have := tw_mem (List.getElem_mem hi)
    simpa using this
  subst e
  refine ⟨by simpa using hl, ?_, h2, h3⟩
  simp [e2]
theorem ofP_sum {x bf : Int} {ps : List Po} (h : ps.Pairwise (·.t ≤ ·.t)) : ((ofP x bf ps).map fun y => gotP x y.2).sum = balT x (bf - 1) ps := by
  have := gP_sum (x := x) (fun _ => true) 0 (bfL bf ps)
  rw [List.filter_eq_self.2 (by simp), List.filter_eq_self.2 (by simp)] at this
  unfold ofP balT; rw [this, bf_flt h]
theorem ofP_at {x bf : Int} {ps : List Po} {i : Nat} (hp : ∀ j, (h : j < ps.length) → j < i → ps[j].t < bf) (h : i < ps.length) (ht : ps[i].t < bf) (hx : ps[i].d = x ∨ ps[i].c = x) : (ofP x bf ps)[(gP x 0 (ps.take i)).length]? = some (i, ps[i]) := by
  obtain ⟨r, hr⟩ := bf_take (bf := bf) (ps := ps) (i := i + 1) fun j hj hi => by
    rcases Nat.lt_or_ge j i with h1 | h1
    · exact hp j hj h1
    · obtain rfl : j = i := by omega
      exact ht
  unfold ofP
  rw [← hr, show ps.take (i + 1) = ps.take i ++ [ps[i]] by simp, List.append_assoc, gP_app, List.length_take, Nat.min_eq_left (by omega), List.getElem?_append_right (by omega), Nat.sub_self, Nat.zero_add]
  show (gP x i (ps[i] :: r))[0]? = _
  unfold gP
  rw [if_pos hx]; rfl
theorem gP_s {x : Int} {ps : List Po} {i : Nat} (h : i < ps.length) : gP x 0 (ps.take (i + 1)) = gP x 0 (ps.take i) ++ if ps[i].d = x ∨ ps[i].c = x then [(i, ps[i])] else [] := by
  rw [show ps.take (i + 1) = ps.take i ++ [ps[i]] by simp, gP_app, List.length_take, Nat.min_eq_left (by omega), Nat.zero_add]
  unfold gP gP; rfl
theorem ofP_stop {x bf : Int} {ps : List Po} {i : Nat} (hp : ∀ j, (h : j < ps.length) → j < i → ps[j].t < bf) (h : ∀ h : i < ps.length, bf ≤ ps[i].t) : ofP x bf ps = gP x 0 (ps.take i) := by
  unfold ofP; rw [bf_stop hp h]

/-! statements, totals -/
def inT (f t : Int) (p : Po) : Bool := decide (f ≤ p.t ∧ p.t < t)
/-- The indices of a statement. -/
def lnZ (x f t : Int) (ps : List Po) : List Int := ((gP x 0 ps).filter fun y => inT f t y.2).map fun y => (y.1 : Int)
def totZ (x f t : Int) (w : Int) (ps : List Po) : Int := ((ps.filter fun p => decide (p.w = w) && inT f t p).map (gotP x)).sum
theorem gP_bf {x t : Int} {ps : List Po} (h : ps.Pairwise (·.t ≤ ·.t)) : ofP x t ps = (gP x 0 ps).filter fun y => decide (y.2.t < t) := by
  obtain ⟨r, hr⟩ : bfL t ps <+: ps := List.takeWhile_prefix _
  have h2 := bf_flt (bf := t) h
  unfold ofP
  conv => rhs; rw [← hr, gP_app, List.filter_append]
  have e1 : (gP x 0 (bfL t ps)).filter (fun y => decide (y.2.t < t)) = gP x 0 (bfL t ps) := List.filter_eq_self.2 fun y hy => by
    obtain ⟨_, _, _, h⟩ := ofP_mem (x := x) (bf := t) (ps := ps) hy
    exact decide_eq_true h
  have e2 : (gP x (0 + (bfL t ps).length) r).filter (fun y => decide (y.2.t < t)) = [] := by
    rw [List.filter_eq_nil_iff]
    intro y hy
    obtain ⟨i, hi, e, _⟩ := gP_mem hy
    subst e
    simp only [decide_eq_true_eq]
    intro hlt
    have h4 : ps.filter (fun p => decide (p.t ≤ t - 1)) = bfL t ps ++ r.filter fun p => decide (p.t ≤ t - 1) := by
      conv => lhs; rw [← hr]
      rw [List.filter_append, List.filter_eq_self.2]
      intro p hp
      have := tw_mem hp
      simp at this ⊢; omega
    rw [← h2] at h4
    have h5 : r.filter (fun p => decide (p.t ≤ t - 1)) = [] := by
      have := congrArg List.length h4
      rw [List.length_append] at this
      exact List.eq_nil_of_length_eq_zero (by omega)
    rw [List.filter_eq_nil_iff] at h5
    exact h5 _ (List.getElem_mem hi) (by simp; omega)
  rw [e1, e2, List.append_nil]
theorem ln_eq {x f t : Int} {ps : List Po} (h : ps.Pairwise (·.t ≤ ·.t)) : ((ofP x t ps).filter fun y => decide (f ≤ y.2.t)).map (fun y => (y.1 : Int)) = lnZ x f t ps := by
  rw [gP_bf h, List.filter_filter]; unfold lnZ inT
  congr 2; funext y; simp
theorem tot_eq {x f t w : Int} {ps : List Po} (h : ps.Pairwise (·.t ≤ ·.t)) : (((ofP x t ps).filter fun y => decide (y.2.w = w) && decide (f ≤ y.2.t)).map fun y => gotP x y.2).sum = totZ x f t w ps := by
  unfold ofP totZ
  rw [gP_sum (x := x) (fun p => decide (p.w = w) && decide (f ≤ p.t)), bf_flt h, List.filter_filter]
  congr 2; congr 1; funext p; unfold inT
  by_cases a1 : p.w = w <;> by_cases a2 : f ≤ p.t <;> by_cases a3 : p.t < t <;> simp [a1, a2, a3] <;> omega
/-! sums -/
theorem sum_app (a b : List Int) : (a ++ b).sum = a.sum + b.sum := List.sum_append
theorem bal_split {x f t : Int} (hf : f ≤ t) : ∀ ps : List Po, balT x (t - 1) ps = balT x (f - 1) ps + ((ps.filter (inT f t)).map (gotP x)).sum
  | [] => rfl
  | p :: r => by
    have h := bal_split (x := x) hf r
    unfold balT at h ⊢
    by_cases a : p.t < f
    · rw [List.filter_cons_of_pos (by simp; omega), List.filter_cons_of_pos (by simp; omega), List.filter_cons_of_neg (by simp [inT]; omega), List.map_cons, List.map_cons, List.sum_cons, List.sum_cons, h, Int.add_assoc]
    · by_cases b : p.t < t
      · rw [List.filter_cons_of_pos (by simp; omega), List.filter_cons_of_neg (by simp; omega), List.filter_cons_of_pos (by simp [inT]; omega), List.map_cons, List.map_cons, List.sum_cons, List.sum_cons, h]; omega
      · rw [List.filter_cons_of_neg (by simp; omega), List.filter_cons_of_neg (by simp; omega), List.filter_cons_of_neg (by simp [inT]; omega), h]
theorem ln_sum {x f t : Int} (ps : List Po) : (((gP x 0 ps).filter fun y => inT f t y.2).map fun y => gotP x y.2).sum = ((ps.filter (inT f t)).map (gotP x)).sum := gP_sum (inT f t) 0 ps
theorem flt_join {α : Type} {g : α → Int} {f s t : Int} (h1 : f ≤ s) (h2 : s ≤ t) : ∀ {l : List α}, l.Pairwise (fun a b => g a ≤ g b) → (l.filter fun a => decide (f ≤ g a ∧ g a < s)) ++ (l.filter fun a => decide (s ≤ g a ∧ g a < t)) = l.filter fun a => decide (f ≤ g a ∧ g a < t)
  | [], _ => rfl
  | a :: r, h => by
    have ih := flt_join h1 h2 (List.Pairwise.of_cons h)
    by_cases c : g a < s
    · by_cases d : f ≤ g a
      · rw [List.filter_cons_of_pos (by simp; omega), List.filter_cons_of_neg (by simp; omega), List.filter_cons_of_pos (by simp; omega), List.cons_append, ih]
      · rw [List.filter_cons_of_neg (by simp; omega), List.filter_cons_of_neg (by simp; omega), List.filter_cons_of_neg (by simp; omega), ih]
    · have e : (a :: r).filter (fun a => decide (f ≤ g a ∧ g a < s)) = [] := by
        rw [List.filter_eq_nil_iff]
        intro b hb
        have : s ≤ g b := by
          rcases List.mem_cons.1 hb with rfl | hb
          · omega
          · have : g a ≤ g b := List.rel_of_pairwise_cons h hb
            omega
        simp; omega
      rw [e, List.nil_append]
      refine List.filter_congr fun b hb => ?_
      have : s ≤ g b := by
        rcases List.mem_cons.1 hb with rfl | hb
        · omega
        · have : g a ≤ g b := List.rel_of_pairwise_cons h hb
          omega
      rw [decide_eq_decide]; omega
theorem ln_join {x f s t : Int} {ps : List Po} (h : ps.Pairwise (·.t ≤ ·.t)) (h1 : f ≤ s) (h2 : s ≤ t) : lnZ x f s ps ++ lnZ x s t ps = lnZ x f t ps := by
  unfold lnZ
  rw [← List.map_append]
  congr 1
  exact flt_join (g := fun y : Nat × Po => y.2.t) h1 h2 (gP_srt h)
theorem got_ne {acc x : Int} {p : Po} (h : pOk acc p) (hx : p.d = x ∨ p.c = x) : gotP x p ≠ 0 := by
  obtain ⟨h1, h2⟩ := h
  unfold badP at h1; unfold outP at h2; unfold gotP
  split <;> split <;> omega
/-! what accounts owe -/
def owP (x y : Int) (p : Po) : Int := if p.c = x ∧ p.d = y then p.a else 0
def owT (x y tick : Int) (ps : List Po) : Int := ((ps.filter fun p => decide (p.t ≤ tick)).map (owP x y)).sum
def owZ (x y tick : Int) (ps : List Po) : Int := owT x y tick ps - owT y x tick ps
theorem ow_le {acc x y tick : Int} {ps : List Po} (h : BkOk acc ps) : 0 ≤ owT x y tick ps ∧ owT x y tick ps ≤ 10995116277760000 := by
  have hq : ∀ p ∈ ps.filter (fun p => decide (p.t ≤ tick)), 0 ≤ owP x y p ∧ owP x y p ≤ 1099511627776 := fun p hp => by
    have := (h.ok p ((List.mem_filter.1 hp).1)).2
    unfold outP at this; unfold owP; split <;> omega
  have h2 : (ps.filter fun p => decide (p.t ≤ tick)).length ≤ 10000 := Nat.le_trans (List.length_filter_le _ _) h.len
  unfold owT
  revert hq h2
  generalize ps.filter (fun p => decide (p.t ≤ tick)) = l
  intro hq h2
  have h1 := sum_le (f := owP x y) (m := 1099511627776) (l := l) fun p hp => by have := hq p hp; omega
  have h3 : (l.length : Int) * 1099511627776 ≤ 10000 * 1099511627776 := Int.mul_le_mul_of_nonneg_right (by omega) (by decide)
  refine ⟨?_, by omega⟩
  clear h1 h2 h3
  induction l with
  | nil => simp
  | cons p r ih =>
    have := hq p (by simp)
    have := ih fun q hq' => hq q (by simp [hq'])
    rw [List.map_cons, List.sum_cons]; omega
theorem sum_comm {α β : Type} {f : α → β → Int} {m : List β} : ∀ l : List α, (l.map fun a => (m.map fun b => f a b).sum).sum = (m.map fun b => (l.map fun a => f a b).sum).sum
  | [] => by
    simp only [List.map_nil, List.sum_nil]
    induction m with
    | nil => rfl
    | cons b r ih => rw [List.map_cons, List.sum_cons, ← ih]; rfl
  | a :: l => by
    have h := sum_comm (f := f) (m := m) l
    rw [List.map_cons, List.sum_cons, h]
    clear h
    induction m with
    | nil => rfl
    | cons b r ih => rw [List.map_cons, List.sum_cons, List.map_cons, List.sum_cons, List.map_cons, List.sum_cons, ← ih, List.map_cons, List.sum_cons]; omega
theorem sum_ind {n : Nat} {z a : Int} : ((List.range n).map fun (k : Nat) => if z = (k : Int) then a else 0).sum = if 0 ≤ z ∧ z < n then a else 0 := by
  induction n with
  | zero => simp; omega
  | succ n ih =>
    rw [List.range_succ, List.map_append, sum_app, ih]
    simp only [List.map_cons, List.map_nil, List.sum_cons, List.sum_nil, Int.add_zero]
    by_cases h : z = (n : Int)
    · rw [if_neg (by omega), if_pos h, if_pos (by omega)]; omega
    · rw [if_neg h]; split
      · rw [if_pos (by omega)]; omega
      · rw [if_neg (by omega)]; rfl
theorem sum_sub {α : Type} {f g : α → Int} : ∀ l : List α, (l.map fun a => f a - g a).sum = (l.map f).sum - (l.map g).sum
  | [] => rfl
  | a :: l => by rw [List.map_cons, List.sum_cons, sum_sub l, List.map_cons, List.sum_cons, List.map_cons, List.sum_cons]; omega
theorem sum_zero {α : Type} {f : α → Int} : ∀ {l : List α}, (∀ a ∈ l, f a = 0) → (l.map f).sum = 0
  | [], _ => rfl
  | a :: l, h => by rw [List.map_cons, List.sum_cons, h a (by simp), sum_zero fun b hb => h b (by simp [hb])]; rfl
theorem bal_all {acc tick : Int} {ps : List Po} (h : BkOk acc ps) : ((List.range acc.toNat).map fun (k : Nat) => balT k tick ps).sum = 0 := by
  have ha := h.a1
  unfold balT
  rw [sum_comm (f := fun (k : Nat) p => gotP k p)]
  refine sum_zero fun p hp => ?_
  have hk := (h.ok p ((List.mem_filter.1 hp).1)).1
  unfold badP at hk
  have e : ∀ k : Nat, gotP k p = (if p.d = (k : Int) then p.a else 0) - (if p.c = (k : Int) then p.a else 0) := fun _ => rfl
  simp only [e]
  rw [sum_sub, sum_ind, sum_ind, if_pos (by omega), if_pos (by omega)]; omega
theorem ow_all {acc x tick : Int} {ps : List Po} (h : BkOk acc ps) : ((List.range acc.toNat).map fun (k : Nat) => owZ k x tick ps).sum = balT x tick ps := by
  have ha := h.a1
  unfold owZ owT balT
  rw [sum_sub, sum_comm (f := fun (k : Nat) p => owP k x p), sum_comm (f := fun (k : Nat) p => owP x k p), ← sum_sub]
  congr 1
  refine List.map_congr_left fun p hp => ?_
  have hk := (h.ok p ((List.mem_filter.1 hp).1)).1
  unfold badP at hk
  have e1 : ∀ k : Nat, owP k x p = if p.c = (k : Int) then (if p.d = x then p.a else 0) else 0 := fun k => by unfold owP; split <;> split <;> simp_all
  have e2 : ∀ k : Nat, owP x k p = if p.d = (k : Int) then (if p.c = x then p.a else 0) else 0 := fun k => by unfold owP; split <;> split <;> simp_all
  simp only [e1, e2]
  rw [sum_ind, sum_ind, if_pos (show 0 ≤ p.c ∧ p.c < (acc.toNat : Int) by omega), if_pos (show 0 ≤ p.d ∧ p.d < (acc.toNat : Int) by omega)]; rfl
theorem tot_all {acc x f t : Int} {ps : List Po} (h : BkOk acc ps) : ((List.range 8).map fun (w : Nat) => totZ x f t w ps).sum = ((ps.filter (inT f t)).map (gotP x)).sum := by
  have e : ∀ (w : Nat) (l : List Po), ((l.filter fun p => decide (p.w = (w : Int)) && inT f t p).map (gotP x)).sum = (((l.filter (inT f t))).map fun p => if p.w = (w : Int) then gotP x p else 0).sum := by
    intro w l
    induction l with
    | nil => rfl
    | cons p r ih =>
      cases a : inT f t p
      · rw [List.filter_cons_of_neg (by simp [a]), List.filter_cons_of_neg (by simp [a]), ih]
      · by_cases b : p.w = (w : Int)
        · rw [List.filter_cons_of_pos (by simp [a, b]), List.filter_cons_of_pos (by simp [a]), List.map_cons, List.sum_cons, List.map_cons, List.sum_cons, ih, if_pos b]
        · rw [List.filter_cons_of_neg (by simp [a, b]), List.filter_cons_of_pos (by simp [a]), List.map_cons, List.sum_cons, ih, if_neg b, Int.zero_add]
  unfold totZ
  simp only [e]
  rw [sum_comm (f := fun (w : Nat) p => if p.w = (w : Int) then gotP x p else 0)]
  congr 1
  refine List.map_congr_left fun p hp => ?_
  have hk := (h.ok p ((List.mem_filter.1 hp).1)).2
  unfold outP at hk
  rw [sum_ind, if_pos (by omega)]
/-! digests -/
def encL {α : Type} (e : α → List UInt8) (l : List α) : List UInt8 := encI l.length ++ l.flatMap e
def poI (p : Po) : List Int := [p.d, p.c, p.a, p.t, p.w, p.r]
def digF (acc : Int) (l : List Po) : List UInt8 := l.foldl (fun d p => ofD 205 [d, encL encI (poI p)]) (ofD 204 [encI acc])
theorem digF_s {acc : Int} {ps : List Po} {i : Nat} (h : i < ps.length) : digF acc (ps.take (i + 1)) = ofD 205 [digF acc (ps.take i), encL encI (poI ps[i])] := by
  unfold digF
  rw [show ps.take (i + 1) = ps.take i ++ [ps[i]] by simp, List.foldl_append]; rfl
theorem digF_len (acc : Int) (l : List Po) : (digF acc l).length = 16 := by
  unfold digF
  suffices ∀ (l : List Po) (d : List UInt8), d.length = 16 → (l.foldl (fun d p => ofD 205 [d, encL encI (poI p)]) d).length = 16 from this l _ (ofD_len _ _)
  intro l
  induction l with
  | nil => exact fun d h => h
  | cons p r ih => exact fun d _ => ih _ (ofD_len _ _)
/-! where two books differ -/
def fkN : List Po → List Po → Option Nat
  | [], [] => none
  | [], _ :: _ => some 0
  | _ :: _, [] => some 0
  | p :: r, q :: s => if p = q then (fkN r s).map (· + 1) else some 0
theorem fk_self : ∀ a : List Po, fkN a a = none
  | [] => rfl
  | p :: r => by unfold fkN; rw [if_pos rfl, fk_self r]; rfl
theorem fk_none : ∀ {a b : List Po}, fkN a b = none → a = b
  | [], [], _ => rfl
  | [], _ :: _, h => by cases h
  | _ :: _, [], h => by cases h
  | p :: r, q :: s, h => by
    unfold fkN at h
    split at h
    · rename_i e
      rw [e, fk_none (Option.map_eq_none_iff.1 h)]
    · cases h
theorem fk_some : ∀ {a b : List Po} {k : Nat}, fkN a b = some k → a.take k = b.take k ∧ k ≤ a.length ∧ k ≤ b.length ∧ a[k]? ≠ b[k]?
  | [], [], _, h => by cases h
  | [], q :: s, k, h => by cases h; simp
  | p :: r, [], k, h => by cases h; simp
  | p :: r, q :: s, k, h => by
    unfold fkN at h
    split at h
    · rename_i e
      obtain ⟨j, hj, rfl⟩ := Option.map_eq_some_iff.1 h
      obtain ⟨a1, a2, a3, a4⟩ := fk_some hj
      exact ⟨by rw [List.take_succ_cons, List.take_succ_cons, a1, e], by simp; omega, by simp; omega, by simpa using a4⟩
    · rename_i e
      cases h
      exact ⟨rfl, by simp, by simp, by simpa using e⟩
theorem fk_at {a b : List Po} {i : Nat} (h : a.take i = b.take i) (h1 : i ≤ a.length) (h2 : i ≤ b.length) (h3 : a[i]? ≠ b[i]?) : fkN a b = some i := by
  induction i generalizing a b with
  | zero =>
    cases a with
    | nil => cases b with
      | nil => simp at h3
      | cons q s => rfl
    | cons p r => cases b with
      | nil => rfl
      | cons q s => unfold fkN; rw [if_neg (by simpa using h3)]
  | succ i ih =>
    cases a with
    | nil => simp at h1
    | cons p r => cases b with
      | nil => simp at h2
      | cons q s =>
        rw [List.take_succ_cons, List.take_succ_cons] at h
        injection h with e1 e2
        unfold fkN
        rw [if_pos e1, ih e2 (by simpa using h1) (by simpa using h2) (by simpa using h3)]; rfl
def fkE (a b : List Po) : Int := match fkN a b with | some _ => 0 | none => 8
def fkK (a b : List Po) : Int := match fkN a b with | some k => k | none => 0
end Go.Abs

