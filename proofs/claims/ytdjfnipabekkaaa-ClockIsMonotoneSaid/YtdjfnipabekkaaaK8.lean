/-
  CLOCK, plain laws: bounds do not decrease; what is true stays known.
-/
import Derived.Test.YtdjfnipabekkaaaK7
namespace Go.Abs
open Go.Proofs
theorem pLo_mono {r s t : Int} (h0 : 0 ≤ r) (h1 : 0 ≤ s) (h : s ≤ t) : pLo r s ≤ pLo r t := by
  by_cases g : 0 < s
  · unfold pLo
    rw [if_pos g, if_pos (by omega)]
    have := Int.ediv_le_ediv (a := (s - 1) * 1000000) (b := (t - 1) * 1000000) (c := 1000000 + r) (by omega) (by omega)
    omega
  · have e : pLo r s = 0 := by unfold pLo; rw [if_neg g]
    rw [e]; exact (pLo_rng h0 (by omega)).1
theorem pHi_mono {r s t : Int} (h1 : r ≤ 100000) (h : s ≤ t) : pHi r s ≤ pHi r t := by
  unfold pHi
  exact Int.ediv_le_ediv (by omega) (by omega)
theorem difI_lt {x : Int} {r : Rd} (h : r.1 ≤ x) : difI x r = x - r.1 := by unfold difI; omega
theorem difI_ge {x : Int} {r : Rd} (h : x ≤ r.1) : difI x r = r.1 - x := by unfold difI; omega
theorem wLo_mono {rate x y : Int} {r : Rd} (h0 : 0 ≤ rate) (h1 : rate ≤ 100000) (h : x ≤ y) : wLo rate x r ≤ wLo rate y r := by
  unfold wLo
  by_cases a : r.1 < x
  · rw [if_pos a, if_pos (by omega), difI_lt (by omega), difI_lt (by omega)]
    have := pLo_mono (r := rate) (s := x - r.1) (t := y - r.1) h0 (by omega) (by omega)
    omega
  · rw [if_neg a, difI_ge (by omega)]
    have q := (pHi_rng (r := rate) (s := r.1 - x) h0 h1 (by omega)).1
    by_cases b : r.1 < y
    · rw [if_pos b, difI_lt (by omega)]
      have p := (pLo_rng (r := rate) (s := y - r.1) h0 (by omega)).1
      omega
    · rw [if_neg b, difI_ge (by omega)]
      have := pHi_mono (r := rate) (s := r.1 - y) (t := r.1 - x) h1 (by omega)
      omega
theorem wHi_mono {rate x y : Int} {r : Rd} (h0 : 0 ≤ rate) (h1 : rate ≤ 100000) (h : x ≤ y) : wHi rate x r ≤ wHi rate y r := by
  unfold wHi
  by_cases a : x < r.1
  · rw [if_pos a, difI_ge (by omega)]
    have p := (pLo_rng (r := rate) (s := r.1 - x) h0 (by omega)).1
    by_cases b : y < r.1
    · rw [if_pos b, difI_ge (by omega)]
      have := pLo_mono (r := rate) (s := r.1 - y) (t := r.1 - x) h0 (by omega) (by omega)
      omega
    · rw [if_neg b, difI_lt (by omega)]
      have q := (pHi_rng (r := rate) (s := y - r.1) h0 h1 (by omega)).1
      omega
  · rw [if_neg a, if_neg (by omega), difI_lt (by omega), difI_lt (by omega)]
    have := pHi_mono (r := rate) (s := x - r.1) (t := y - r.1) h1 (by omega)
    omega
theorem foldl_max_le {α : Type} (f g : α → Int) : ∀ (l : List α) (a b : Int), a ≤ b → (∀ r ∈ l, f r ≤ g r) → (l.map f).foldl max a ≤ (l.map g).foldl max b
  | [], _, _, h, _ => h
  | r :: l, a, b, h, hl => foldl_max_le f g l _ _ (by have := hl r (by simp); omega) fun x hx => hl x (by simp [hx])
theorem foldl_min_le {α : Type} (f g : α → Int) : ∀ (l : List α) (a b : Int), a ≤ b → (∀ r ∈ l, f r ≤ g r) → (l.map f).foldl min a ≤ (l.map g).foldl min b
  | [], _, _, h, _ => h
  | r :: l, a, b, h, hl => foldl_min_le f g l _ _ (by have := hl r (by simp); omega) fun x hx => hl x (by simp [hx])
theorem loB_mono {rate x y : Int} {rs : List Rd} (h0 : 0 ≤ rate) (h1 : rate ≤ 100000) (h : x ≤ y) : loB rate x rs ≤ loB rate y rs := foldl_max_le _ _ rs 0 0 (by omega) fun _ _ => wLo_mono h0 h1 h
theorem hiB_mono {rate x y : Int} {rs : List Rd} (h0 : 0 ≤ rate) (h1 : rate ≤ 100000) (h : x ≤ y) : hiB rate x rs ≤ hiB rate y rs := foldl_min_le _ _ rs _ _ (by omega) fun _ _ => wHi_mono h0 h1 h
theorem lat_cut (rate due : Int) (rs : List Rd) : ∃ r, chkC rate rs = 0 → Cut (latP rate due rs) r := by
  by_cases hc : chkC rate rs = 0
  · obtain ⟨c1, c2, _⟩ := chkC_ok hc
    obtain ⟨r, hr⟩ := cut_ex (latP rate due rs) fun a b _ hab _ h => by
      have h : due < hiB rate a rs := of_decide_eq_true h
      have := hiB_mono (rs := rs) c1 c2 hab
      exact decide_eq_true (by omega)
    exact ⟨r, fun _ => hr⟩
  · exact ⟨0, fun h => absurd h hc⟩
theorem ear_cut (rate due : Int) (rs : List Rd) : ∃ r, chkC rate rs = 0 → Cut (earP rate due rs) r := by
  by_cases hc : chkC rate rs = 0
  · obtain ⟨c1, c2, _⟩ := chkC_ok hc
    obtain ⟨r, hr⟩ := cut_ex (earP rate due rs) fun a b _ hab _ h => by
      have h : due ≤ loB rate a rs := of_decide_eq_true h
      have := loB_mono (rs := rs) c1 c2 hab
      exact decide_eq_true (by omega)
    exact ⟨r, fun _ => hr⟩
  · exact ⟨0, fun h => absurd h hc⟩
/-- The true instant is within what a reading allows. -/
theorem foldl_max_ge {α : Type} (f : α → Int) : ∀ (l : List α) (a n : Int), ((l.map f).foldl max a ≤ n ↔ a ≤ n ∧ ∀ r ∈ l, f r ≤ n)
  | [], a, n => by simp
  | r :: l, a, n => by
    rw [List.map_cons, List.foldl_cons, foldl_max_ge f l]
    simp only [List.mem_cons, forall_eq_or_imp]
    exact ⟨fun ⟨h1, h2⟩ => ⟨by omega, by omega, h2⟩, fun ⟨h1, h2, h3⟩ => ⟨by omega, h3⟩⟩
theorem foldl_min_ge {α : Type} (f : α → Int) : ∀ (l : List α) (a n : Int), (n ≤ (l.map f).foldl min a ↔ n ≤ a ∧ ∀ r ∈ l, n ≤ f r)
  | [], a, n => by simp
  | r :: l, a, n => by
    rw [List.map_cons, List.foldl_cons, foldl_min_ge f l]
    simp only [List.mem_cons, forall_eq_or_imp]
    exact ⟨fun ⟨h1, h2⟩ => ⟨by omega, by omega, h2⟩, fun ⟨h1, h2, h3⟩ => ⟨by omega, h3⟩⟩
theorem loB_le {rate x n : Int} {rs : List Rd} : loB rate x rs ≤ n ↔ 0 ≤ n ∧ ∀ r ∈ rs, wLo rate x r ≤ n := foldl_max_ge _ rs 0 n
theorem hiB_ge {rate x n : Int} {rs : List Rd} : n ≤ hiB rate x rs ↔ n ≤ 3600000000 ∧ ∀ r ∈ rs, n ≤ wHi rate x r := foldl_min_ge _ rs _ n
theorem loB_0 {rate x : Int} {rs : List Rd} : 0 ≤ loB rate x rs := (loB_le.1 (Int.le_refl _)).1
theorem hiB_m {rate x : Int} {rs : List Rd} : hiB rate x rs ≤ 3600000000 := (hiB_ge.1 (Int.le_refl _)).1
/-- n instants can have passed if the value changed by d: floors of values. -/
theorem pass_ok {rate n v w : Int} (h0 : 0 ≤ rate) (h1 : rate ≤ 100000) (hn : 0 ≤ n) (hlo : (1000000 - rate) * n ≤ w - v) (hhi : w - v ≤ (1000000 + rate) * n) (hv : 0 ≤ v) : pLo rate (w / 1000000 - v / 1000000) ≤ n ∧ n ≤ pHi rate (w / 1000000 - v / 1000000) := by
  have hp : 0 ≤ (1000000 - rate) * n := Int.mul_nonneg (by omega) hn
  generalize hd : w / 1000000 - v / 1000000 = d
  have a1 : (d - 1) * 1000000 + 1 ≤ w - v := by omega
  have a2 : w - v ≤ (d + 1) * 1000000 - 1 := by omega
  refine ⟨?_, ?_⟩
  · unfold pLo
    split
    · rename_i g
      have : (d - 1) * 1000000 / (1000000 + rate) < n := (Int.ediv_lt_iff_lt_mul (by omega)).2 (by rw [Int.mul_comm n]; omega)
      omega
    · exact hn
  · unfold pHi
    exact (Int.le_ediv_iff_mul_le (by omega)).2 (by rw [Int.mul_comm n]; omega)
theorem chkR_of : ∀ {rs : List Rd} {l : Int}, (∀ r ∈ rs, rdP r ∧ l < r.1) → rs.Pairwise (fun a b => a.1 < b.1) → chkR rs l = 0
  | [], _, _, _ => rfl
  | r :: q, l, h, hp => by
    unfold chkR
    have h1 := h r (by simp)
    rw [if_neg (fun hn => hn h1.1), if_neg (by omega)]
    obtain ⟨p1, p2⟩ := List.pairwise_cons.1 hp
    exact chkR_of (fun x hx => ⟨(h x (by simp [hx])).1, p1 x hx⟩) p2
theorem chkC_of {rate : Int} {rs : List Rd} (h0 : 0 ≤ rate) (h1 : rate ≤ 100000) (h2 : rs.length ≤ 16) (h3 : ∀ r ∈ rs, rdP r) (h4 : rs.Pairwise (fun a b => a.1 < b.1)) : chkC rate rs = 0 := by
  unfold chkC
  rw [if_neg (by omega), if_neg (by omega)]
  exact chkR_of (fun r hr => ⟨h3 r hr, by have := (h3 r hr).1.1; omega⟩) h4
theorem lastR_max {rs : List Rd} (hp : rs.Pairwise (fun a b => a.1 < b.1)) (r : Rd) (hr : r ∈ rs) : r.1 ≤ lastR rs := by
  obtain ⟨i, hi, rfl⟩ := List.getElem_of_mem hr
  have h0 : 0 < rs.length := by omega
  have e : lastR rs = (rs[rs.length - 1]'(by omega)).1 := by
    unfold lastR
    simp [List.getD_eq_getElem?_getD, show rs.length - 1 < rs.length by omega]
  rw [e]
  by_cases h : i = rs.length - 1
  · subst h; exact Int.le_refl _
  · have := List.pairwise_iff_getElem.1 hp i (rs.length - 1) hi (by omega) (by omega)
    omega
/-- A reading is true: it was made at the instant t, at the value v. -/
def Tr (now value rate : Int) (r : Rd) : Prop := ∃ t v : Int, 0 ≤ t ∧ t ≤ now ∧ 0 ≤ v ∧ r.1 = v / 1000000 ∧ r.2.1 ≤ t ∧ t ≤ r.2.2 ∧ (1000000 - rate) * (now - t) ≤ value - v ∧ value - v ≤ (1000000 + rate) * (now - t)
theorem Tr.adv {now value rate n dv : Int} {r : Rd} (h : Tr now value rate r) (hn : 0 ≤ n) (h1 : (1000000 - rate) * n ≤ dv) (h2 : dv ≤ (1000000 + rate) * n) : Tr (now + n) (value + dv) rate r := by
  obtain ⟨t, v, a1, a2, a3, a4, a5, a6, a7, a8⟩ := h
  have e1 : (1000000 - rate) * (now + n - t) = (1000000 - rate) * (now - t) + (1000000 - rate) * n := by rw [← Int.mul_add]; congr 1; omega
  have e2 : (1000000 + rate) * (now + n - t) = (1000000 + rate) * (now - t) + (1000000 + rate) * n := by rw [← Int.mul_add]; congr 1; omega
  exact ⟨t, v, a1, by omega, a3, a4, a5, a6, by omega, by omega⟩
theorem Tr.bnd {now value rate : Int} {r : Rd} (h : Tr now value rate r) (h0 : 0 ≤ rate) (h1 : rate ≤ 100000) : wLo rate (value / 1000000) r ≤ now ∧ now ≤ wHi rate (value / 1000000) r := by
  obtain ⟨t, v, a1, a2, a3, a4, a5, a6, a7, a8⟩ := h
  obtain ⟨p1, p2⟩ := pass_ok h0 h1 (n := now - t) (v := v) (w := value) (by omega) a7 a8 a3
  have hp : 0 ≤ (1000000 - rate) * (now - t) := Int.mul_nonneg (by omega) (by omega)
  have hx : r.1 ≤ value / 1000000 := by omega
  have hd : difI (value / 1000000) r = value / 1000000 - v / 1000000 := by rw [difI_lt hx, a4]
  unfold wLo wHi
  rw [hd]
  have q := (pHi_rng (r := rate) (s := value / 1000000 - v / 1000000) h0 h1 (by omega)).1
  refine ⟨?_, ?_⟩
  · split <;> omega
  · rw [if_neg (by omega)]; omega
theorem now_true {now value rate : Int} {rs : List Rd} (hc : chkC rate rs = 0) (ht : ∀ r ∈ rs, Tr now value rate r) (h0 : 0 ≤ now) (h1 : now ≤ 3600000000) (h2 : instP (value / 1000000)) :
    nowE rate (value / 1000000) rs = 0 ∧ loB rate (value / 1000000) rs ≤ now ∧ now ≤ hiB rate (value / 1000000) rs := by
  obtain ⟨c1, c2, _⟩ := chkC_ok hc
  have hl : loB rate (value / 1000000) rs ≤ now := loB_le.2 ⟨h0, fun r hr => ((ht r hr).bnd c1 c2).1⟩
  have hh : now ≤ hiB rate (value / 1000000) rs := hiB_ge.2 ⟨h1, fun r hr => ((ht r hr).bnd c1 c2).2⟩
  exact ⟨nowE_0 hc h2 (by omega), hl, hh⟩
theorem sync_true {now value rate : Int} {rs : List Rd} {r : Rd} (hc : chkC rate rs = 0) (ht : ∀ r ∈ rs, Tr now value rate r) (h0 : 0 ≤ now) (h1 : now ≤ 3600000000) (hv : 0 ≤ value) (h2 : instP (value / 1000000)) (hr : r.1 = value / 1000000) (hrp : rdP r) (h3 : r.2.1 ≤ now) (h4 : now ≤ r.2.2) :
    (synE rate rs r = 15 ∧ 0 < rs.length ∧ r.1 ≤ lastR rs) ∨ (synE rate rs r = 0 ∧ chkC rate (synL rate rs r) = 0 ∧ ∀ x ∈ synL rate rs r, Tr now value rate x) := by
  obtain ⟨c1, c2, c3, c4, c5⟩ := chkC_ok hc
  by_cases h : 0 < rs.length ∧ r.1 ≤ lastR rs
  · exact .inl ⟨synE_3 hc hrp h, h⟩
  refine .inr ?_
  obtain ⟨n1, n2, n3⟩ := now_true hc ht h0 h1 h2
  rw [← hr] at n1 n2 n3
  have b0 := loB_0 (rate := rate) (x := r.1) (rs := rs)
  have bm := hiB_m (rate := rate) (x := r.1) (rs := rs)
  have v1 : valP r.2.1 r.2.2 := hrp.2
  have v2 : valP (loB rate r.1 rs) (hiB rate r.1 rs) := by omega
  have nc : ¬ min r.2.2 (hiB rate r.1 rs) < max r.2.1 (loB rate r.1 rs) := by omega
  obtain ⟨j1, j2, j3⟩ := join_0 v1 v2 nc
  have e : synE rate rs r = 0 := by rw [synE_5 hc hrp h n1]; exact j3.symm
  have eR : synR rate rs r = (r.1, max r.2.1 (loB rate r.1 rs), min r.2.2 (hiB rate r.1 rs)) := by unfold synR; rw [← j1, ← j2]
  have hin : ∀ x ∈ synL rate rs r, x ∈ rs ∨ x = synR rate rs r := fun x hx => by
    have := List.mem_of_mem_drop hx
    simpa using this
  have hR : rdP (synR rate rs r) := by
    rw [eR]; exact ⟨hrp.1, by show 0 ≤ max _ _; omega, by show max _ _ ≤ min _ _; omega, by show min _ _ ≤ _; omega⟩
  have hTR : Tr now value rate (synR rate rs r) := by
    rw [eR]
    exact ⟨now, value, h0, by omega, hv, hr, by show max _ _ ≤ _; omega, by show _ ≤ min _ _; omega, by rw [Int.sub_self, Int.sub_self, Int.mul_zero]; omega, by rw [Int.sub_self, Int.sub_self, Int.mul_zero]; omega⟩
  refine ⟨e, chkC_of c1 c2 (by rw [synL_len]; omega) (fun x hx => ?_) ?_, fun x hx => ?_⟩
  · rcases hin x hx with h | rfl
    · exact c4 x h
    · exact hR
  · refine List.Pairwise.sublist (List.drop_sublist _ _) (List.pairwise_append.2 ⟨c5, by simp, fun a ha b hb => ?_⟩)
    obtain rfl : b = synR rate rs r := by simpa using hb
    have m := lastR_max c5 a ha
    have hlen : 0 < rs.length := List.length_pos_of_mem ha
    rw [eR]
    show a.1 < r.1
    omega
  · rcases hin x hx with h | rfl
    · exact ht x h
    · exact hTR
theorem ans_true {now value rate n dv : Int} {rs : List Rd} {lo hi : Int} (hc : chkC rate rs = 0) (h0 : 0 ≤ now) (hv : 0 ≤ value) (hn : 0 ≤ n) (h1 : (1000000 - rate) * n ≤ dv) (h2 : dv ≤ (1000000 + rate) * n) (h3 : instP ((value + dv) / 1000000)) (hm : now + n ≤ 3600000000) (h4 : valP lo hi) (h5 : lo ≤ now + n) (h6 : now ≤ hi) :
    ansE rate rs (value / 1000000) ((value + dv) / 1000000) lo hi = 0 ∧ (ansR rate rs (value / 1000000) ((value + dv) / 1000000) lo hi).1 = (value + dv) / 1000000 ∧ rdP (ansR rate rs (value / 1000000) ((value + dv) / 1000000) lo hi) ∧ (ansR rate rs (value / 1000000) ((value + dv) / 1000000) lo hi).2.1 ≤ now + n ∧ now + n ≤ (ansR rate rs (value / 1000000) ((value + dv) / 1000000) lo hi).2.2 := by
  obtain ⟨c1, c2, _⟩ := chkC_ok hc
  have hp : 0 ≤ (1000000 - rate) * n := Int.mul_nonneg (by omega) hn
  obtain ⟨p1, p2⟩ := pass_ok c1 c2 (n := n) (v := value) (w := value + dv) hn (by omega) (by omega) hv
  have q := pHi_rng (r := rate) (s := (value + dv) / 1000000 - value / 1000000) c1 c2 (by omega)
  obtain ⟨e1, e2⟩ := ans_0 (sent := value / 1000000) (got := (value + dv) / 1000000) (lo := lo) (hi := hi) hc (by omega)
  rw [e1, e2]
  refine ⟨rfl, rfl, ⟨h3, ?_⟩, h5, ?_⟩
  · show valP lo (min _ _)
    omega
  · show _ ≤ min _ _
    omega
end Go.Abs

