/-
  WIRE, plain laws: what is encoded is decoded; what is decoded was encoded; what is cut short is told. No program in sight.
-/
import Derived.Test.YtkhjapkjhjkdiaaW10
namespace Go.Abs
open Go.Proofs

theorem toNat8 {n : Nat} (h : n < 256) : n.toUInt8.toNat = n := by simp [Nat.toUInt8, UInt8.toNat_ofNat', Nat.mod_eq_of_lt h]
theorem zz_unzz (z : Nat) : Lib.zigzag (Lib.unzigzag z) = z := by
  unfold Lib.unzigzag Lib.zigzag
  split <;> split <;> omega
theorem unzz_zz (v : Int) : Lib.unzigzag (Lib.zigzag v) = v := by
  unfold Lib.unzigzag Lib.zigzag
  split <;> split <;> omega

theorem gi_enc (rest : List UInt8) : ∀ (x k z : Nat), k ≤ 9 → x * 128 ^ k < 18446744073709551616 → (0 < k → 0 < x) → gi k z (Lib.uvarint x ++ rest) = .ok (z + x * 128 ^ k, k + (Lib.uvarint x).length) := by
  intro x
  induction x using Nat.strongRecOn with
  | ind x ih =>
    intro k z hk hx hp
    have h9 : k = 9 → x < 2 := by rintro rfl; omega
    by_cases hs : x < 128
    · have e : x.toUInt8.toNat = x := toNat8 (by omega)
      rw [Lib.uvarint_small hs, List.singleton_append, gi, e, if_neg (by omega), if_pos hs]
      rfl
    · have e : (x % 128 + 128).toUInt8.toNat = x % 128 + 128 := toNat8 (by omega)
      rw [Lib.uvarint_big (by omega), List.cons_append, gi, e, if_neg (by omega), if_neg (by omega)]
      have e2 : x % 128 * 128 ^ k + x / 128 * 128 ^ (k + 1) = x * 128 ^ k := by
        have : x / 128 * 128 ^ (k + 1) = 128 * (x / 128) * 128 ^ k := by rw [Nat.pow_succ, Nat.mul_comm (128 ^ k), ← Nat.mul_assoc, Nat.mul_comm (x / 128)]
        rw [this, ← Nat.add_mul, Nat.mod_add_div]
      have hle : x / 128 * 128 ^ (k + 1) ≤ x * 128 ^ k := by omega
      rw [ih (x / 128) (by omega) (k + 1) _ (by omega) (by omega) (fun _ => by omega)]
      have e3 : (x % 128 + 128) % 128 = x % 128 := by omega
      rw [e3, List.length_cons]
      congr 2 <;> omega
theorem gi_trunc : ∀ (x k z i : Nat), k ≤ 9 → x * 128 ^ k < 18446744073709551616 → (0 < k → 0 < x) → i < (Lib.uvarint x).length → gi k z ((Lib.uvarint x).take i) = .error 10 := by
  intro x
  induction x using Nat.strongRecOn with
  | ind x ih =>
    intro k z i hk hx hp hi
    have h9 : k = 9 → x < 2 := by rintro rfl; omega
    cases i with
    | zero => rw [List.take_zero, gi]
    | succ i =>
      by_cases hs : x < 128
      · rw [Lib.uvarint_small hs] at hi; simp at hi
      · have e : (x % 128 + 128).toUInt8.toNat = x % 128 + 128 := toNat8 (by omega)
        rw [Lib.uvarint_big (by omega), List.length_cons] at hi
        rw [Lib.uvarint_big (by omega), List.take_succ_cons, gi, e, if_neg (by omega), if_neg (by omega)]
        have e2 : x % 128 * 128 ^ k + x / 128 * 128 ^ (k + 1) = x * 128 ^ k := by
          have : x / 128 * 128 ^ (k + 1) = 128 * (x / 128) * 128 ^ k := by rw [Nat.pow_succ, Nat.mul_comm (128 ^ k), ← Nat.mul_assoc, Nat.mul_comm (x / 128)]
          rw [this, ← Nat.add_mul, Nat.mod_add_div]
        exact ih (x / 128) (by omega) (k + 1) _ i (by omega) (by omega) (fun _ => by omega) (by omega)
theorem gi_canon : ∀ (b : List UInt8) (k z Z U : Nat), gi k z b = .ok (Z, U) → ∃ y, Z = z + y * 128 ^ k ∧ Lib.uvarint y = b.take (U - k) ∧ k < U ∧ (0 < k → 0 < y)
  | [], k, z, Z, U, h => by rw [gi] at h; cases h
  | c :: r, k, z, Z, U, h => by
    rw [gi] at h
    split at h
    · cases h
    · rename_i hb
      split at h
      · rename_i hc
        cases h
        have e : c.toNat.toUInt8 = c := by simp [Nat.toUInt8]
        refine ⟨c.toNat, rfl, ?_, by omega, fun hk => ?_⟩
        · rw [Lib.uvarint_small hc, show k + 1 - k = 1 by omega, e]; rfl
        · omega
      · rename_i hc
        obtain ⟨y, h1, h2, h3, h4⟩ := gi_canon r _ _ _ _ h
        have hlt := c.toNat_lt
        have hy := h4 (by omega)
        refine ⟨c.toNat % 128 + 128 * y, ?_, ?_, by omega, fun _ => by omega⟩
        · rw [h1, Nat.add_mul, Nat.pow_succ, Nat.mul_comm (128 ^ k), ← Nat.mul_assoc, Nat.mul_comm y]; omega
        · rw [Lib.uvarint_big (by omega), show U - k = (U - (k + 1)) + 1 by omega, List.take_succ_cons]
          have e1 : (c.toNat % 128 + 128 * y) / 128 = y := by omega
          have e2 : (c.toNat % 128 + 128 * y) % 128 + 128 = c.toNat := by omega
          have e : c.toNat.toUInt8 = c := by simp [Nat.toUInt8]
          rw [e1, e2, h2, e]

def I64 (v : Int) : Prop := -9223372036854775808 ≤ v ∧ v ≤ 9223372036854775807
theorem decI_enc {v : Int} (h : I64 v) (rest : List UInt8) : decI (encI v ++ rest) = .ok (v, (encI v).length) := by
  unfold decI encI
  rw [gi_enc rest _ 0 0 (by omega) (by have := Lib.zigzag_lt h.1 h.2; omega) (by omega)]
  simp [unzz_zz]
theorem decI_trunc {v : Int} (h : I64 v) {i : Nat} (hi : i < (encI v).length) : decI ((encI v).take i) = .error 10 := by
  unfold decI encI at *
  rw [gi_trunc _ 0 0 i (by omega) (by have := Lib.zigzag_lt h.1 h.2; omega) (by omega) hi]
theorem decI_canon {b : List UInt8} {v : Int} {u : Nat} (h : decI b = .ok (v, u)) : encI v = b.take u := by
  unfold decI at h
  split at h
  · rename_i z u' e
    cases h
    obtain ⟨y, h1, h2, _⟩ := gi_canon _ _ _ _ _ e
    simp only [Nat.zero_add, Nat.pow_zero, Nat.mul_one, Nat.sub_zero] at h1 h2
    unfold encI
    rw [zz_unzz, h1, h2]
  · cases h

theorem decN_enc (n least : Nat) (hn : n ≤ 1000000000) (rest : List UInt8) : decN (encI n ++ rest) least = if n > rest.length / least then .error 10 else .ok (n, (encI n).length) := by
  unfold decN
  rw [decI_enc ⟨by omega, by omega⟩]
  have e : (encI (n : Int) ++ rest).length - (encI (n : Int)).length = rest.length := by rw [List.length_append]; omega
  simp only [e]
  rw [if_neg (by omega)]
  by_cases h : n > rest.length / least
  · rw [if_pos (by exact_mod_cast h), if_pos h]
  · rw [if_neg (by intro h2; exact h (by exact_mod_cast h2)), if_neg h]; rfl
theorem decN_canon {b : List UInt8} {least n u : Nat} (h : decN b least = .ok (n, u)) : encI n = b.take u := by
  unfold decN at h
  split at h
  · cases h
  · rename_i m u' e
    split at h
    · cases h
    · split at h
      · cases h
      · cases h
        rw [show ((m.toNat : Nat) : Int) = m by omega]
        exact decI_canon e
theorem decN_trunc {n least i : Nat} (hn : n ≤ 1000000000) (hi : i < (encI (n : Int)).length) : decN ((encI (n : Int)).take i) least = .error 10 := by
  unfold decN
  rw [decI_trunc ⟨by omega, by omega⟩ hi]

/-- A code for the elements of a list. -/
structure Cod {α : Type} (e : α → List UInt8) (dec : List UInt8 → Except Int (α × Nat)) (ok : α → Prop) : Prop where
  enc : ∀ {x}, ok x → ∀ rest, dec (e x ++ rest) = .ok (x, (e x).length)
  canon : ∀ {b x u}, dec b = .ok (x, u) → e x = b.take u ∧ u ≤ b.length
  trunc : ∀ {x i}, ok x → i < (e x).length → dec ((e x).take i) = .error 10
  pos : ∀ {x}, ok x → 1 ≤ (e x).length
theorem encI_pos (v : Int) : 1 ≤ (encI v).length := Lib.uvarint_pos _
theorem Cod_int : Cod encI decI I64 where
  enc h rest := decI_enc h rest
  canon h := ⟨decI_canon h, (decI_ok h).2.1⟩
  trunc h hi := decI_trunc h hi
  pos _ := encI_pos _

theorem take_len_app {a b : List UInt8} : ∀ {i : Nat}, a.length ≤ i → (a ++ b).take i = a ++ b.take (i - a.length) := by
  intro i h
  rw [List.take_append, List.take_of_length_le h]
theorem drop_len_app {a b : List UInt8} : (a ++ b).drop a.length = b := by simp

theorem Cod_str : Cod encB decB (fun s => s.length ≤ 1000000) where
  enc := by
    intro s hs rest
    unfold decB encB
    rw [List.append_assoc, decN_enc _ _ (by omega), if_neg (by rw [Nat.div_one, List.length_append]; omega)]
    simp
  canon := by
    intro b s u h
    unfold decB at h
    split at h
    · cases h
    · rename_i n v e
      cases h
      have h1 := decN_ok e
      rw [Nat.div_one] at h1
      have h2 := decN_canon e
      have h3 : ((b.drop v).take n).length = n := by rw [List.length_take, List.length_drop]; omega
      unfold encB
      rw [h3, h2, List.take_add]
      exact ⟨rfl, by omega⟩
  trunc := by
    intro s i hs hi
    unfold decB
    unfold encB at hi ⊢
    by_cases h : i < (encI (s.length : Int)).length
    · rw [List.take_append_of_le_length (by omega), decN_trunc (by omega) h]
    · rw [take_len_app (by omega), decN_enc _ _ (by omega), if_pos]
      rw [List.length_append] at hi
      rw [Nat.div_one, List.length_take]; omega
  pos := by
    intro s _
    have := encI_pos (s.length : Int)
    unfold encB
    rw [List.length_append]; omega

section
variable {α : Type} {e : α → List UInt8} {dec : List UInt8 → Except Int (α × Nat)} {ok : α → Prop} (hC : Cod e dec ok)
include hC
theorem decR_enc (b rest : List UInt8) : ∀ (l : List α) (at_ : Nat) (acc : List α), (∀ x ∈ l, ok x) → b.drop at_ = l.flatMap e ++ rest → decR dec b l.length at_ acc = .ok (acc ++ l, at_ + (l.flatMap e).length)
  | [], at_, acc, _, _ => by simp [decR]
  | x :: r, at_, acc, ho, hb => by
    rw [List.length_cons, decR, hb, List.flatMap_cons, List.append_assoc, hC.enc (ho x (by simp))]
    simp only
    rw [decR_enc b rest r _ _ (fun y hy => ho y (by simp [hy]))]
    · simp [Nat.add_assoc]
    · rw [← List.drop_drop, hb, List.flatMap_cons, List.append_assoc, drop_len_app]
theorem decR_canon (b : List UInt8) : ∀ (n at_ : Nat) (acc l : List α) (u : Nat), at_ ≤ b.length → decR dec b n at_ acc = .ok (l, u) → ∃ l', l = acc ++ l' ∧ l'.length = n ∧ l'.flatMap e = (b.drop at_).take (u - at_) ∧ at_ ≤ u ∧ u ≤ b.length
  | 0, at_, acc, l, u, ha, h => by
    rw [decR] at h; cases h
    exact ⟨[], by simp, rfl, by simp, Nat.le_refl _, ha⟩
  | n + 1, at_, acc, l, u, ha, h => by
    rw [decR] at h
    split at h
    · cases h
    · rename_i x v hx
      obtain ⟨h1, h2⟩ := hC.canon hx
      rw [List.length_drop] at h2
      obtain ⟨l', r1, r2, r3, r4, r5⟩ := decR_canon b n _ _ _ _ (by omega) h
      refine ⟨x :: l', by rw [r1]; simp, by simp [r2], ?_, by omega, r5⟩
      rw [List.flatMap_cons, h1, r3, show u - at_ = v + (u - (at_ + v)) by omega, List.take_add, List.drop_drop]
theorem decR_trunc (b : List UInt8) : ∀ (l : List α) (at_ : Nat) (acc : List α) (j : Nat), (∀ x ∈ l, ok x) → b.drop at_ = (l.flatMap e).take j → j < (l.flatMap e).length → decR dec b l.length at_ acc = .error 10
  | [], at_, acc, j, _, _, hj => by simp at hj
  | x :: r, at_, acc, j, ho, hb, hj => by
    rw [List.length_cons, decR, hb, List.flatMap_cons]
    rw [List.flatMap_cons, List.length_append] at hj
    by_cases h : j < (e x).length
    · rw [List.take_append_of_le_length (by omega), hC.trunc (ho x (by simp)) h]
    · rw [take_len_app (by omega), hC.enc (ho x (by simp))]
      simp only
      refine decR_trunc b r _ _ (j - (e x).length) (fun y hy => ho y (by simp [hy])) ?_ (by omega)
      rw [← List.drop_drop, hb, List.flatMap_cons, take_len_app (by omega), drop_len_app]
theorem flatMap_len_ge : ∀ (l : List α), (∀ x ∈ l, ok x) → l.length ≤ (l.flatMap e).length
  | [], _ => by simp
  | x :: r, ho => by
    have h1 := flatMap_len_ge r fun y hy => ho y (by simp [hy])
    have h2 := hC.pos (ho x (by simp))
    rw [List.flatMap_cons, List.length_append, List.length_cons]; omega
theorem decL_enc (l : List α) (hl : l.length ≤ 1000000) (ho : ∀ x ∈ l, ok x) (rest : List UInt8) : decL dec 1 (encL e l ++ rest) = .ok (l, (encL e l).length) := by
  unfold decL encL
  have hge := flatMap_len_ge hC l ho
  rw [List.append_assoc, decN_enc _ _ (by omega), if_neg (by rw [Nat.div_one, List.length_append]; omega)]
  simp only
  rw [decR_enc hC _ rest l _ _ ho (by rw [drop_len_app])]
  simp
theorem decL_canon {b : List UInt8} {l : List α} {u : Nat} (h : decL dec 1 b = .ok (l, u)) : encL e l = b.take u ∧ u ≤ b.length := by
  unfold decL at h
  split at h
  · cases h
  · rename_i n v hn
    have h1 := decN_ok hn
    have h2 := decN_canon hn
    obtain ⟨l', r1, r2, r3, r4, r5⟩ := decR_canon hC b n v [] l u h1.2.1 h
    rw [List.nil_append] at r1; subst r1
    refine ⟨?_, r5⟩
    unfold encL
    rw [r2, h2, r3, show u = v + (u - v) by omega, List.take_add]
    simp
theorem decL_trunc {l : List α} (hl : l.length ≤ 1000000) (ho : ∀ x ∈ l, ok x) {i : Nat} (hi : i < (encL e l).length) : decL dec 1 ((encL e l).take i) = .error 10 := by
  unfold decL
  unfold encL at hi ⊢
  by_cases h : i < (encI (l.length : Int)).length
  · rw [List.take_append_of_le_length (by omega), decN_trunc (by omega) h]
  · rw [take_len_app (by omega), decN_enc _ _ (by omega)]
    rw [List.length_append] at hi
    by_cases hh : l.length > ((l.flatMap e).take (i - (encI (l.length : Int)).length)).length / 1
    · rw [if_pos hh]
    · rw [if_neg hh]
      exact decR_trunc hC _ l _ _ (i - (encI (l.length : Int)).length) ho (by rw [drop_len_app]) (by omega)
end

theorem decD_enc {n : Nat} {B : List UInt8} (hn : n ≤ 1000000) (hB : B.length = n * 16) (rest : List UInt8) : decD (encD n B ++ rest) = .ok ((n, B), (encD n B).length) := by
  unfold decD encD
  rw [List.append_assoc, decN_enc _ _ (by omega), if_neg]
  · simp only [drop_len_app]
    rw [List.length_append, ← hB]; simp
  · rw [List.length_append]
    have : n ≤ (B.length + rest.length) / 16 := (Nat.le_div_iff_mul_le (by decide)).2 (by omega)
    omega
theorem decD_canon {b : List UInt8} {n u : Nat} {B : List UInt8} (h : decD b = .ok ((n, B), u)) : encD n B = b.take u ∧ u ≤ b.length ∧ B.length = n * 16 := by
  unfold decD at h
  split at h
  · cases h
  · rename_i m v hn
    cases h
    have h1 := decN_ok hn
    have h2 := decN_canon hn
    have h3 : n * 16 ≤ b.length - v := by
      have := Nat.mul_le_mul_right 16 h1.2.2.2
      have := Nat.div_mul_le_self (b.length - v) 16
      omega
    unfold encD
    rw [h2, List.take_add]
    refine ⟨rfl, by omega, by rw [List.length_take, List.length_drop]; omega⟩
theorem decD_trunc {n : Nat} {B : List UInt8} (hn : n ≤ 1000000) (hB : B.length = n * 16) {i : Nat} (hi : i < (encD n B).length) : decD ((encD n B).take i) = .error 10 := by
  unfold decD
  unfold encD at hi ⊢
  by_cases h : i < (encI (n : Int)).length
  · rw [List.take_append_of_le_length (by omega), decN_trunc (by omega) h]
  · rw [take_len_app (by omega), decN_enc _ _ (by omega), if_pos]
    rw [List.length_append] at hi
    rw [List.length_take]
    have : min (i - (encI (n : Int)).length) B.length / 16 < n := (Nat.div_lt_iff_lt_mul (by decide)).2 (by omega)
    omega

/-! ### Lengths of integers' encodings -/
theorem uvarint_len_half : ∀ (x y : Nat), x / 2 = y / 2 → (Lib.uvarint x).length = (Lib.uvarint y).length := by
  intro x
  induction x using Nat.strongRecOn with
  | ind x ih =>
    intro y h
    by_cases hs : x < 128
    · rw [Lib.uvarint_small hs, Lib.uvarint_small (x := y) (by omega)]; rfl
    · rw [Lib.uvarint_big (by omega), Lib.uvarint_big (x := y) (by omega), List.length_cons, List.length_cons, ih (x / 128) (by omega) (y / 128) (by omega)]
theorem uvarint_len_mono : ∀ (y x : Nat), x ≤ y → (Lib.uvarint x).length ≤ (Lib.uvarint y).length := by
  intro y
  induction y using Nat.strongRecOn with
  | ind y ih =>
    intro x h
    by_cases hs : x < 128
    · rw [Lib.uvarint_small hs]; exact Lib.uvarint_pos y
    · rw [Lib.uvarint_big (by omega), Lib.uvarint_big (x := y) (by omega), List.length_cons, List.length_cons]
      have := ih (y / 128) (by omega) (x / 128) (by omega)
      omega
/-- How far from -1/2, halves cut off. -/
theorem zz_half (v : Int) : ((Lib.zigzag v / 2 : Nat) : Int) = max v (-1 - v) := by
  unfold Lib.zigzag
  split <;> omega
theorem encI_mono {m n : Int} (h : max m (-1 - m) ≤ max n (-1 - n)) : (encI m).length ≤ (encI n).length := by
  unfold encI
  have h1 := zz_half m
  have h2 := zz_half n
  by_cases he : Lib.zigzag m / 2 = Lib.zigzag n / 2
  · exact Nat.le_of_eq (uvarint_len_half _ _ he)
  · exact uvarint_len_mono _ _ (by omega)
theorem encI_neg (m : Int) : (encI (-1 - m)).length = (encI m).length := Nat.le_antisymm (encI_mono (by omega)) (encI_mono (by omega))
theorem encI_one (m : Int) : (encI m).length = 1 ↔ max m (-1 - m) < 64 := by
  unfold encI
  have h1 := zz_half m
  by_cases hs : Lib.zigzag m < 128
  · rw [Lib.uvarint_small hs]; simp only [List.length_singleton, true_iff]; omega
  · rw [Lib.uvarint_big (by omega), List.length_cons]
    have := Lib.uvarint_pos (Lib.zigzag m / 128)
    constructor <;> intro h <;> omega
/-- No encoding begins with another. -/
theorem encI_prefix {m n : Int} (hm : I64 m) (hn : I64 n) {l : Nat} (hl : l = min (encI m).length (encI n).length) : (encI m).take l = (encI n).take l ↔ m = n := by
  refine ⟨fun h => ?_, fun h => by rw [h]⟩
  have key : ∀ {a b : Int}, I64 a → I64 b → (encI a).length ≤ (encI b).length → (encI a).take (encI a).length = (encI b).take (encI a).length → a = b := by
    intro a b ha hb hle h
    rw [List.take_length] at h
    have e : encI b = encI a ++ (encI b).drop (encI a).length := by
      conv => lhs; rw [← List.take_append_drop (encI a).length (encI b)]
      rw [← h]
    have h1 := decI_enc hb []
    rw [List.append_nil, e, decI_enc ha] at h1
    injection h1 with h2
    exact (Prod.mk.inj h2).1
  by_cases hle : (encI m).length ≤ (encI n).length
  · rw [hl, Nat.min_eq_left hle] at h
    exact key hm hn hle h
  · rw [hl, Nat.min_eq_right (by omega)] at h
    exact (key hn hm (by omega) h.symm).symm
#print axioms encI_prefix
#print axioms decL_trunc
end Go.Abs

