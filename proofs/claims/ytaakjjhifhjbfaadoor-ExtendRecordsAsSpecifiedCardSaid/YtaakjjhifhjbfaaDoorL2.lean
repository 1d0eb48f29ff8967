/-
  EXTEND, plain laws: tries to vote, and what they come to.
-/
import Derived.Test.YtaakjjhifhjbfaaDoorL1
namespace Go.Abs
open Go.Proofs
/-- What holds after some tries: the plea is right, and who has voted is known. -/
structure Tri (c : Cn) (last u op tick : Int) (m : Pl) (vo : List Bool) (yes : Int) : Prop where
  rgt : rgtP c m
  ho : m.o = 7
  hl : m.l = last
  hu : m.u = u
  hn : m.n = op
  ht : op ≤ tick
  hx : ∀ x ∈ m.v, x.t ≤ tick
  hvl : vo.length = 12
  hv : ∀ i : Nat, i < 12 → vo.getD i false = m.v.any fun x => decide (x.h = (i : Int))
  hy : yes = yesN m.v
theorem Tri.lst {c : Cn} {last u op tick : Int} {m : Pl} {vo : List Bool} {yes : Int} (h : Tri c last u op tick m vo yes) : lstT m ≤ tick := lst_le (by have := h.hn; have := h.ht; omega) h.hx
theorem Tri.later {c : Cn} {last u op tick t : Int} {m : Pl} {vo : List Bool} {yes : Int} (h : Tri c last u op tick m vo yes) (ht : tick ≤ t) : Tri c last u op t m vo yes :=
  ⟨h.rgt, h.ho, h.hl, h.hu, h.hn, by have := h.ht; omega, fun x hx => by have := h.hx x hx; omega, h.hvl, h.hv, h.hy⟩
/-- When a vote is taken. -/
theorem Tri.acc {c : Cn} {last u op tick : Int} {m : Pl} {vo : List Bool} {yes : Int} (h : Tri c last u op tick m vo yes) (v : Bl) (ht : v.t = tick) :
    vtE c m v = 0 ↔ 0 ≤ seatI c.hs v.h ∧ vo.getD v.h.toNat false = false ∧ tick ≤ last ∧ v.s = sealD c m v.h v.t v.y := by
  have hl := h.lst
  have hll := h.hl
  have e : vtE c m v = voE c m v := by unfold vtE; rw [if_pos h.rgt.1, if_pos h.rgt]
  rw [e]
  unfold voE
  by_cases g1 : seatI c.hs v.h < 0
  · rw [if_pos g1]
    exact ⟨fun g => by omega, fun g => by omega⟩
  rw [if_neg g1]
  have hm := seat_mem.1 (show 0 ≤ seatI c.hs v.h by omega)
  obtain ⟨i, hi, ei⟩ := List.getElem_of_mem hm
  have hb := okC_hs h.rgt.1 hi
  rw [getD_at hi, ei] at hb
  have hv := h.hv v.h.toNat (by omega)
  rw [show ((v.h.toNat : Nat) : Int) = v.h by omega] at hv
  rw [hv]
  by_cases g2 : (m.v.any fun x => decide (x.h = v.h)) = true
  · rw [if_pos g2, g2]
    exact ⟨fun g => by omega, fun g => by simp at g⟩
  rw [if_neg g2]
  by_cases g3 : m.l < v.t
  · rw [if_pos g3]
    exact ⟨fun g => by omega, fun g => by omega⟩
  rw [if_neg g3, if_neg (by omega)]
  by_cases g4 : v.s = sealD c m v.h v.t v.y
  · rw [if_pos g4]
    exact ⟨fun _ => ⟨by omega, by simpa using g2, by omega, g4⟩, fun _ => rfl⟩
  · rw [if_neg g4]
    exact ⟨fun g => by omega, fun g => absurd g.2.2.2 g4⟩
theorem Tri.add {c : Cn} {last u op tick : Int} {m : Pl} {vo : List Bool} {yes : Int} (h : Tri c last u op tick m vo yes) (v : Bl) (ht : v.t = tick) (ha : vtE c m v = 0) :
    Tri c last u op tick ⟨m.o, m.l, m.u, m.n, m.v ++ [v]⟩ (vo.set v.h.toNat true) (if v.y = true then yes + 1 else yes) ∧ 0 ≤ v.h ∧ v.h ≤ 11 := by
  have hv0 : voE c m v = 0 := by
    have e : vtE c m v = voE c m v := by unfold vtE; rw [if_pos h.rgt.1, if_pos h.rgt]
    rw [← e]; exact ha
  have hs := ((h.acc v ht).1 ha).1
  obtain ⟨i, hi, ei⟩ := List.getElem_of_mem (seat_mem.1 hs)
  have hb := okC_hs h.rgt.1 hi
  rw [getD_at hi, ei] at hb
  refine ⟨⟨rgt_add h.rgt hv0, h.ho, h.hl, h.hu, h.hn, h.ht, fun x hx => ?_, by rw [List.length_set]; exact h.hvl, fun j hj => ?_, ?_⟩, hb.1, hb.2⟩
  · rcases List.mem_append.1 hx with g | g
    · exact h.hx x g
    · simp only [List.mem_singleton] at g; subst g; omega
  · rw [List.any_append, ← h.hv j hj, List.getD_eq_getElem?_getD, List.getD_eq_getElem?_getD, List.getElem?_set]
    by_cases g : v.h.toNat = j
    · rw [if_pos g, if_pos (by rw [h.hvl]; omega)]
      have : v.h = (j : Int) := by omega
      simp [this]
    · rw [if_neg g]
      have : ¬ v.h = (j : Int) := by omega
      simp [this]
  · rw [yesN_app, ← h.hy]
    have e : yesN [v] = flg v.y := by unfold yesN; simp
    rw [e]
    unfold flg
    by_cases g : v.y = true
    · rw [if_pos g, if_pos g]
    · rw [if_neg g, if_neg g]; omega
/-- What a seal says that was changed. -/
theorem set_ne {s : List UInt8} {i : Nat} {b : UInt8} (hi : i < s.length) (hb : b ≠ s[i]) : s.set i b ≠ s := by
  intro h
  have : (s.set i b)[i]'(by simpa using hi) = s[i] := by simp only [h]
  rw [List.getElem_set_self] at this
  exact hb this
theorem Tri.dec {c : Cn} {last u op tick : Int} {m : Pl} {vo : List Bool} {yes : Int} (h : Tri c last u op tick m vo yes) :
    (dcE c m tick = 0 ↔ c.nd ≤ yes ∧ tick ≤ last) ∧ dcN c m tick = if c.nd ≤ yes ∧ tick ≤ last then u else 0 := by
  have hl := h.lst
  have hll := h.hl
  have hy := h.hy
  have e : dcE c m tick = 0 ↔ c.nd ≤ yes ∧ tick ≤ last := by
    unfold dcE
    rw [if_pos h.rgt.1, if_pos h.rgt]
    by_cases g : m.l < tick
    · rw [if_pos g]; exact ⟨fun g => by omega, fun g => by omega⟩
    rw [if_neg g, if_neg (by omega)]
    by_cases g2 : yesN m.v < c.nd
    · rw [if_pos g2]; exact ⟨fun g => by omega, fun g => by omega⟩
    · rw [if_neg g2]; exact ⟨fun _ => ⟨by omega, by omega⟩, fun _ => rfl⟩
  refine ⟨e, ?_⟩
  unfold dcN
  by_cases g : dcE c m tick = 0
  · rw [if_pos g, if_pos (e.1 g), h.hu]
  · rw [if_neg g, if_neg fun q => g (e.2 q)]
end Go.Abs

