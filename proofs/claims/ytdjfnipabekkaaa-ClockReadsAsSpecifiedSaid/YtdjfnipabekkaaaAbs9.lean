/-
  AN ABSTRACT WALK, ninth text: slices of slices, of strings, of arrays; new variables; stores; conversions.
-/
import Derived.Test.YtdjfnipabekkaaaAbs8
import Derived.Lib.Strings
namespace Go.Abs
open Go.RowKit (Below)

section
variable {P : Program} {w0 : Bas} {w : World} {φ : Loc} {S : St} {tmps : Array Value}

/-! ### x[lo:hi], x[lo:hi:max] -/
/-- The two or three bounds, as numbers. -/
def boD (d : Option D) (k : Option Int → Prop) : Prop :=
  match d with
  | none => k none
  | some (.int _ n) => k (some n)
  | _ => False

def slcW (ty : TY) (sz : Nat) (dx : D) (lo hi mx : Option Int) (k : D → Prop) : Prop :=
  match ty, dx with
  | .str, .str s => mx = none ∧ 0 ≤ lo.getD 0 ∧ lo.getD 0 ≤ hi.getD s.length ∧ hi.getD s.length ≤ s.length ∧ k (.str ((s.drop (lo.getD 0).toNat).take ((hi.getD s.length).toNat - (lo.getD 0).toNat)))
  | .slice _, .sl sz' n cs | .slice _, .slx sz' n cs =>
    sz' = sz ∧ 0 ≤ lo.getD 0 ∧ lo.getD 0 ≤ hi.getD n ∧ hi.getD n ≤ n ∧
      match mx with
      | none => k (.sl sz ((hi.getD n).toNat - (lo.getD 0).toNat) ((cs.drop ((lo.getD 0).toNat * sz)).take (((hi.getD n).toNat - (lo.getD 0).toNat) * sz)))
      | some m => m = hi.getD n ∧ hi.isSome = true ∧ k (.slx sz ((hi.getD n).toNat - (lo.getD 0).toNat) ((cs.drop ((lo.getD 0).toNat * sz)).take (((hi.getD n).toNat - (lo.getD 0).toNat) * sz)))
  | .slice _, .osl id sz' n => sz' = sz ∧ mx = none ∧ 0 ≤ lo.getD 0 ∧ lo.getD 0 ≤ hi.getD n ∧ hi.getD n ≤ n ∧ k (.osw id ((lo.getD 0).toNat * sz) sz ((hi.getD n).toNat - (lo.getD 0).toNat))
  | .slice _, .osw id off sz' n => sz' = sz ∧ mx = none ∧ 0 ≤ lo.getD 0 ∧ lo.getD 0 ≤ hi.getD n ∧ hi.getD n ≤ n ∧ k (.osw id (off + (lo.getD 0).toNat * sz) sz ((hi.getD n).toNat - (lo.getD 0).toNat))
  | .arr len _, .ptr id off => mx = none ∧ 0 ≤ lo.getD 0 ∧ lo.getD 0 ≤ hi.getD len ∧ hi.getD len ≤ len ∧ lkoW id S.own fun c => off + len * sz ≤ c.length ∧ len ≤ maxLen ∧ k (.osw id (off + (lo.getD 0).toNat * sz) sz ((hi.getD len).toNat - (lo.getD 0).toNat))
  | .arr len _, .rop cs off => mx = none ∧ 0 ≤ lo.getD 0 ∧ lo.getD 0 ≤ hi.getD len ∧ hi.getD len ≤ len ∧ off + len * sz ≤ cs.length ∧ len ≤ maxLen ∧ k (.sl sz ((hi.getD len).toNat - (lo.getD 0).toNat) ((cs.drop (off + (lo.getD 0).toNat * sz)).take (((hi.getD len).toNat - (lo.getD 0).toNat) * sz)))
  | _, _ => False

/-- Bounds as the machine has them. -/
def BoOk (w : World) (v : Option Value) (d : Option Int) : Prop :=
  match v, d with
  | none, none => True
  | some v, some n => ∃ k, v = .int k n
  | _, _ => False
theorem run_sliceBound {v : Value} {k : IntKind} {n : Int} {y : Nat} {code : BoundsCode} (hv : v = .int k n) (h0 : 0 ≤ n) (h1 : n ≤ y) : (Instr.sliceBound v y code).run P w = .ok n.toNat w := by
  subst hv; simp [Instr.sliceBound, asIntOf, h0, h1]

theorem run_sliceBounds {isS : Bool} {len cap : Nat} {lo hi mx : Option Value} {l h m : Option Int} (hl : BoOk w lo l) (hh : BoOk w hi h) (hm : BoOk w mx m) (h0 : 0 ≤ l.getD 0) (h1 : l.getD 0 ≤ h.getD len) (h2 : h.getD len ≤ len) (hlc : len ≤ cap)
    (hmx : ∀ x, m = some x → x = h.getD len ∧ h.isSome = true) :
    (Instr.sliceBounds isS len cap lo hi mx).run P w = .ok ((l.getD 0).toNat, (h.getD len).toNat, (m.getD cap).toNat) w := by
  cases m with
  | none =>
    cases mx with
    | some x => exact hm.elim
    | none =>
      cases h with
      | none =>
        cases hi with
        | some x => exact hh.elim
        | none =>
          cases l with
          | none =>
            cases lo with
            | some x => exact hl.elim
            | none => simp [Instr.sliceBounds]
          | some ln =>
            cases lo with
            | none => exact hl.elim
            | some x =>
              obtain ⟨k, rfl⟩ := hl
              simp only [Option.getD_some, Option.getD_none] at h0 h1
              simp [Instr.sliceBounds, run_sliceBound rfl h0 h1]
      | some hn =>
        cases hi with
        | none => exact hh.elim
        | some x =>
          obtain ⟨k, rfl⟩ := hh
          simp only [Option.getD_some] at h1 h2
          have hb : ∀ c, (Instr.sliceBound (.int k hn) cap c).run P w = .ok hn.toNat w := fun c => run_sliceBound rfl (by omega) (by omega)
          cases l with
          | none =>
            cases lo with
            | some x => exact hl.elim
            | none => cases isS <;> simp [Instr.sliceBounds, hb]
          | some ln =>
            cases lo with
            | none => exact hl.elim
            | some x =>
              obtain ⟨k', rfl⟩ := hl
              simp only [Option.getD_some] at h0 h1
              have hb' : ∀ c, (Instr.sliceBound (.int k' ln) hn.toNat c).run P w = .ok ln.toNat w := fun c => run_sliceBound rfl h0 (by omega)
              cases isS <;> simp [Instr.sliceBounds, hb, hb']
  | some mn =>
    obtain ⟨rfl, hs⟩ := hmx mn rfl
    cases h with
    | none => cases hs
    | some hn =>
      cases hi with
      | none => exact hh.elim
      | some x =>
        obtain ⟨k, rfl⟩ := hh
        cases mx with
        | none => exact hm.elim
        | some y =>
          obtain ⟨k2, rfl⟩ := hm
          simp only [Option.getD_some] at h1 h2
          have hb2 : ∀ c, (Instr.sliceBound (.int k2 hn) cap c).run P w = .ok hn.toNat w := fun c => run_sliceBound rfl (by omega) (by omega)
          have hb : ∀ c, (Instr.sliceBound (.int k hn) hn.toNat c).run P w = .ok hn.toNat w := fun c => run_sliceBound rfl (by omega) (by omega)
          cases l with
          | none =>
            cases lo with
            | some x => exact hl.elim
            | none => cases isS <;> simp [Instr.sliceBounds, hb, hb2]
          | some ln =>
            cases lo with
            | none => exact hl.elim
            | some x =>
              obtain ⟨k', rfl⟩ := hl
              simp only [Option.getD_some] at h0 h1
              have hb' : ∀ c, (Instr.sliceBound (.int k' ln) hn.toNat c).run P w = .ok ln.toNat w := fun c => run_sliceBound rfl h0 (by omega)
              cases isS <;> simp [Instr.sliceBounds, hb, hb2, hb']

theorem run_sliceAt_slice {T e : TypeId} {i : TypeInfo} (ht : P.underlying T = some (.slice e)) (hi : P.info? e = some i) {a : Option Addr} {len cap : Nat} {lo hi' mx : Option Value} {l h m : Nat}
    (hb : (Instr.sliceBounds true len cap lo hi' mx).run P w = .ok (l, h, m) w) :
    (Instr.sliceAt T (.slice a len cap) lo hi' mx).run P w = .ok (.slice (if m = l then a else a.map (·.add (l * i.size))) (h - l) (m - l)) w := by
  simp [Instr.sliceAt, Instr.slice, run_underlying ht, hb, sizeOf, typeInfo, hi]
theorem run_sliceAt_arr {T e : TypeId} {i : TypeInfo} {n : Nat} (ht : P.underlying T = some (.array n e)) (hi : P.info? e = some i) {a : Addr} {lo hi' mx : Option Value} {l h m : Nat}
    (hb : (Instr.sliceBounds false n n lo hi' mx).run P w = .ok (l, h, m) w) :
    (Instr.sliceAt T (.pointer (some a)) lo hi' mx).run P w = .ok (.slice (some (if m = l then a else a.add (l * i.size))) (h - l) (m - l)) w := by
  simp [Instr.sliceAt, run_underlying ht, hb, sizeOf, typeInfo, hi, Instr.sureAddr]
theorem run_sliceAt_str {T : TypeId} (ht : P.underlying T = some .string) {s : ByteArray} {lo hi' : Option Value} {l h m : Nat}
    (hb : (Instr.sliceBounds false s.size s.size lo hi' none).run P w = .ok (l, h, m) w) :
    (Instr.sliceAt T (.string s) lo hi' none).run P w = .ok (.string (s.extract l h)) w := by
  simp [Instr.sliceAt, Instr.slice, run_underlying ht, hb]

theorem extract_list (s : ByteArray) (l h : Nat) : (s.extract l h).data.toList = (s.data.toList.drop l).take (h - l) := by
  rw [ByteArray.data_extract, Array.toList_extract, List.extract_eq_take_drop]

/-- A part of a readable row. -/
theorem rep_part {F : Nat → Prop} {a : Addr} {sz n c l h : Nat} {cs : List D} (g : Nat → Value) (hsp : a.spot = none) (hF : F a.block) (hc : ∀ (j : Nat), j < n * sz → w.cell? ⟨a.block, a.off + j, none⟩ = some (g j) ∧ (g j).oneCell' = true)
    (hd : ∀ (j : Nat) (d : D), cs[j]? = some d → RepR w F (g j) d) (hlen : cs.length = n * sz) (hl : l ≤ h) (hh : h ≤ n) {p : Addr} (hp : p.spot = none ∧ p.block = a.block ∧ (h = l ∨ p.off = a.off + l * sz)) (hcc : h - l ≤ c) (hm : c ≤ maxLen) :
    RepR w F (.slice (some p) (h - l) c) (.sl sz (h - l) ((cs.drop (l * sz)).take ((h - l) * sz))) ∧ (c = h - l → RepR w F (.slice (some p) (h - l) c) (.slx sz (h - l) ((cs.drop (l * sz)).take ((h - l) * sz)))) := by
  have hmul : l * sz + (h - l) * sz ≤ n * sz := by rw [← Nat.add_mul]; exact Nat.mul_le_mul_right _ (by omega)
  have h1 : ((cs.drop (l * sz)).take ((h - l) * sz)).length = (h - l) * sz := by simp; omega
  by_cases he : h = l
  · subst he
    simp only [Nat.sub_self, Nat.zero_mul, List.take_zero]
    exact ⟨.sl0 hm, fun hc => by subst hc; exact .slx0⟩
  · obtain ⟨p1, p2, p3⟩ := hp
    have p3 := p3.resolve_left he
    have hcell : ∀ (j : Nat), j < (h - l) * sz → w.cell? ⟨p.block, p.off + j, none⟩ = some (g (l * sz + j)) ∧ (g (l * sz + j)).oneCell' = true := fun j hj => by
      rw [p2, p3, Nat.add_assoc]; exact hc _ (by omega)
    have hdd : ∀ (j : Nat) (d : D), ((cs.drop (l * sz)).take ((h - l) * sz))[j]? = some d → RepR w F (g (l * sz + j)) d := fun j d hj => by
      rw [List.getElem?_take] at hj
      split at hj
      · rw [List.getElem?_drop] at hj; exact hd _ d hj
      · cases hj
    refine ⟨.sl (fun j => g (l * sz + j)) p1 (by rw [p2]; exact hF) hcc hm h1 hcell hdd, fun hce => ?_⟩
    rw [hce]
    exact .slx (fun j => g (l * sz + j)) p1 (by rw [p2]; exact hF) (by omega) h1 hcell hdd

theorem slcW_ok (hs : SatC w0 φ S tmps w) {T e : TypeId} {sz : Nat} (hi : (∃ i, P.info? e = some i ∧ i.size = sz) ∧ (tyOf P T = .slice e ∨ ∃ n, tyOf P T = .arr n e) ∨ tyOf P T = .str) {xv : Value} {dx : D} (hx : Rep φ w (FSx φ S.own w) xv dx)
    {lo hi' mx : Option Value} {l h m : Option Int} (hl : BoOk w lo l) (hh : BoOk w hi' h) (hm : BoOk w mx m) {k : D → Prop} (hk : slcW (S := S) (tyOf P T) sz dx l h m k) :
    ∃ v d, (Instr.sliceAt T xv lo hi' mx).run P w = .ok v w ∧ k d ∧ Rep φ w (FSx φ S.own w) v d := by
  rcases hi with ⟨⟨i, hi, rfl⟩, he | ⟨len, he⟩⟩ | he
  · have ht := tyOf_slice he
    rw [he] at hk
    cases dx with
    | sl sz' n cs =>
      obtain ⟨rfl, h0, h1, h2, hk⟩ := hk
      have hmx : ∀ x, m = some x → x = h.getD n ∧ h.isSome = true := fun x hx => by subst hx; exact ⟨hk.1, hk.2.1⟩
      cases hx with | ro hx => cases hx with
      | @sl0 _ c p hcm =>
        have hrun := run_sliceBounds (P := P) (isS := true) (cap := c) hl hh hm h0 h1 h2 (by omega) hmx
        have e1 : (h.getD ((0 : Nat) : Int)).toNat - (l.getD 0).toNat = 0 := by omega
        cases m with
        | none =>
          refine ⟨_, _, run_sliceAt_slice ht hi hrun, hk, .ro ?_⟩
          rw [e1, Nat.zero_mul, List.take_zero]
          exact .sl0 (by simp only [Option.getD_none]; omega)
        | some x =>
          refine ⟨_, _, run_sliceAt_slice ht hi hrun, hk.2.2, .ro ?_⟩
          rw [e1, Nat.zero_mul, List.take_zero]
          have : ((some x).getD (c : Int)).toNat - (l.getD 0).toNat = 0 := by rw [Option.getD_some, hk.1]; exact e1
          rw [this]
          exact .slx0
      | @sl a c _ _ _ g a1 a2 a3 a4 a5 a6 a7 =>
        have hrun := run_sliceBounds (P := P) (isS := true) (cap := c) hl hh hm h0 h1 h2 a3 hmx
        cases m with
        | none =>
          have := rep_part (w := w) (c := (((none : Option Int).getD (c : Int)).toNat) - (l.getD 0).toNat) (l := (l.getD 0).toNat) (h := (h.getD (n : Int)).toNat) g a1 a2 a6 a7 a5 (by omega) (by omega)
            (p := if ((none : Option Int).getD (c : Int)).toNat = (l.getD 0).toNat then a else a.add ((l.getD 0).toNat * i.size)) (by
              simp only [Option.getD_none]
              split
              · exact ⟨a1, rfl, .inl (by omega)⟩
              · rw [addr_add' a1]; exact ⟨rfl, rfl, .inr rfl⟩) (by simp only [Option.getD_none]; omega) (by simp only [Option.getD_none]; omega)
          refine ⟨_, _, run_sliceAt_slice ht hi hrun, hk, .ro ?_⟩
          have e : (if ((none : Option Int).getD (c : Int)).toNat = (l.getD 0).toNat then some a else (some a).map (·.add ((l.getD 0).toNat * i.size))) = some (if ((none : Option Int).getD (c : Int)).toNat = (l.getD 0).toNat then a else a.add ((l.getD 0).toNat * i.size)) := by split <;> rfl
          rw [e]
          exact this.1
        | some x =>
          have := rep_part (w := w) (c := (((some x).getD (c : Int)).toNat) - (l.getD 0).toNat) (l := (l.getD 0).toNat) (h := (h.getD (n : Int)).toNat) g a1 a2 a6 a7 a5 (by omega) (by omega)
            (p := if ((some x).getD (c : Int)).toNat = (l.getD 0).toNat then a else a.add ((l.getD 0).toNat * i.size)) (by
              simp only [Option.getD_some]
              have := hk.1
              split
              · exact ⟨a1, rfl, .inl (by omega)⟩
              · rw [addr_add' a1]; exact ⟨rfl, rfl, .inr rfl⟩) (by have := hk.1; simp only [Option.getD_some]; omega) (by have := hk.1; simp only [Option.getD_some]; omega)
          refine ⟨_, _, run_sliceAt_slice ht hi hrun, hk.2.2, .ro ?_⟩
          have e : (if ((some x).getD (c : Int)).toNat = (l.getD 0).toNat then some a else (some a).map (·.add ((l.getD 0).toNat * i.size))) = some (if ((some x).getD (c : Int)).toNat = (l.getD 0).toNat then a else a.add ((l.getD 0).toNat * i.size)) := by split <;> rfl
          rw [e]
          exact this.2 (by rw [Option.getD_some, hk.1])
    | slx sz' n cs =>
      obtain ⟨rfl, h0, h1, h2, hk⟩ := hk
      have hmx : ∀ x, m = some x → x = h.getD n ∧ h.isSome = true := fun x hx => by subst hx; exact ⟨hk.1, hk.2.1⟩
      cases hx with | ro hx => cases hx with
      | @slx0 _ p =>
        have hrun := run_sliceBounds (P := P) (isS := true) (cap := 0) hl hh hm h0 h1 h2 (by omega) hmx
        have e1 : (h.getD ((0 : Nat) : Int)).toNat - (l.getD 0).toNat = 0 := by omega
        cases m with
        | none =>
          refine ⟨_, _, run_sliceAt_slice ht hi hrun, hk, .ro ?_⟩
          rw [e1, Nat.zero_mul, List.take_zero]
          exact .sl0 (by simp only [Option.getD_none]; omega)
        | some x =>
          refine ⟨_, _, run_sliceAt_slice ht hi hrun, hk.2.2, .ro ?_⟩
          rw [e1, Nat.zero_mul, List.take_zero]
          have : ((some x).getD ((0 : Nat) : Int)).toNat - (l.getD 0).toNat = 0 := by rw [Option.getD_some, hk.1]; exact e1
          rw [this]
          exact .slx0
      | @slx a _ _ _ g a1 a2 a4 a5 a6 a7 =>
        have hrun := run_sliceBounds (P := P) (isS := true) (cap := n) hl hh hm h0 h1 h2 (Nat.le_refl _) hmx
        cases m with
        | none =>
          have := rep_part (w := w) (c := (((none : Option Int).getD (n : Int)).toNat) - (l.getD 0).toNat) (l := (l.getD 0).toNat) (h := (h.getD (n : Int)).toNat) g a1 a2 a6 a7 a5 (by omega) (by omega)
            (p := if ((none : Option Int).getD (n : Int)).toNat = (l.getD 0).toNat then a else a.add ((l.getD 0).toNat * i.size)) (by
              simp only [Option.getD_none]
              split
              · exact ⟨a1, rfl, .inl (by omega)⟩
              · rw [addr_add' a1]; exact ⟨rfl, rfl, .inr rfl⟩) (by simp only [Option.getD_none]; omega) (by simp only [Option.getD_none]; omega)
          refine ⟨_, _, run_sliceAt_slice ht hi hrun, hk, .ro ?_⟩
          have e : (if ((none : Option Int).getD (n : Int)).toNat = (l.getD 0).toNat then some a else (some a).map (·.add ((l.getD 0).toNat * i.size))) = some (if ((none : Option Int).getD (n : Int)).toNat = (l.getD 0).toNat then a else a.add ((l.getD 0).toNat * i.size)) := by split <;> rfl
          rw [e]
          exact this.1
        | some x =>
          have := rep_part (w := w) (c := (((some x).getD (n : Int)).toNat) - (l.getD 0).toNat) (l := (l.getD 0).toNat) (h := (h.getD (n : Int)).toNat) g a1 a2 a6 a7 a5 (by omega) (by omega)
            (p := if ((some x).getD (n : Int)).toNat = (l.getD 0).toNat then a else a.add ((l.getD 0).toNat * i.size)) (by
              simp only [Option.getD_some]
              have := hk.1
              split
              · exact ⟨a1, rfl, .inl (by omega)⟩
              · rw [addr_add' a1]; exact ⟨rfl, rfl, .inr rfl⟩) (by have := hk.1; simp only [Option.getD_some]; omega) (by have := hk.1; simp only [Option.getD_some]; omega)
          refine ⟨_, _, run_sliceAt_slice ht hi hrun, hk.2.2, .ro ?_⟩
          have e : (if ((some x).getD (n : Int)).toNat = (l.getD 0).toNat then some a else (some a).map (·.add ((l.getD 0).toNat * i.size))) = some (if ((some x).getD (n : Int)).toNat = (l.getD 0).toNat then a else a.add ((l.getD 0).toNat * i.size)) := by split <;> rfl
          rw [e]
          exact this.2 (by rw [Option.getD_some, hk.1])
    | osl id sz' n =>
      obtain ⟨rfl, rfl, h0, h1, h2, hk⟩ := hk
      cases hx with
      | ro hx => cases hx
      | @osl0 _ _ p hb =>
        have hrun := run_sliceBounds (P := P) (isS := true) (cap := 0) hl hh hm h0 h1 h2 (by omega) (fun x hx => by cases hx)
        have e1 : (h.getD ((0 : Nat) : Int)).toNat - (l.getD 0).toNat = 0 := by omega
        refine ⟨_, _, run_sliceAt_slice ht hi hrun, hk, ?_⟩
        rw [e1]
        exact .osw0 (by simp only [Option.getD_none]; omega)
      | @osl _ _ _ c b hb a1 a2 a3 =>
        have hrun := run_sliceBounds (P := P) (isS := true) (cap := c) hl hh hm h0 h1 h2 a2 (fun x hx => by cases hx)
        refine ⟨_, _, run_sliceAt_slice ht hi hrun, hk, ?_⟩
        simp only [Option.getD_none, Int.toNat_natCast]
        by_cases hc : c = (l.getD 0).toNat
        · have e1 : (h.getD (n : Int)).toNat - (l.getD 0).toNat = 0 := by omega
          rw [if_pos hc, e1]; exact .osw0 (by omega)
        · rw [if_neg hc, Option.map_some, addr_add, Nat.zero_add]
          refine .osw hb (by omega) (by omega) ?_
          rw [← a1, ← Nat.add_mul]; exact Nat.mul_le_mul_right _ (by omega)
    | osw id off sz' n =>
      obtain ⟨rfl, rfl, h0, h1, h2, hk⟩ := hk
      cases hx with
      | ro hx => cases hx
      | @osw0 _ _ _ c p hcm =>
        have hrun := run_sliceBounds (P := P) (isS := true) (cap := c) hl hh hm h0 h1 h2 (by omega) (fun x hx => by cases hx)
        have e1 : (h.getD ((0 : Nat) : Int)).toNat - (l.getD 0).toNat = 0 := by omega
        refine ⟨_, _, run_sliceAt_slice ht hi hrun, hk, ?_⟩
        rw [e1]
        exact .osw0 (by simp only [Option.getD_none]; omega)
      | @osw _ _ _ _ c b hb a2 a3 a1 =>
        have hrun := run_sliceBounds (P := P) (isS := true) (cap := c) hl hh hm h0 h1 h2 a2 (fun x hx => by cases hx)
        refine ⟨_, _, run_sliceAt_slice ht hi hrun, hk, ?_⟩
        simp only [Option.getD_none, Int.toNat_natCast]
        by_cases hc : c = (l.getD 0).toNat
        · have e1 : (h.getD (n : Int)).toNat - (l.getD 0).toNat = 0 := by omega
          rw [if_pos hc, e1]; exact .osw0 (by omega)
        · rw [if_neg hc, Option.map_some, addr_add]
          refine .osw hb (by omega) (by omega) ?_
          have : (l.getD 0).toNat * i.size + (c - (l.getD 0).toNat) * i.size ≤ c * i.size := by rw [← Nat.add_mul]; exact Nat.mul_le_mul_right _ (by omega)
          omega
    | _ => exact hk.elim
  · have ht := tyOf_arr he
    rw [he] at hk
    cases dx with
    | ptr id off =>
      obtain ⟨rfl, h0, h1, h2, hk⟩ := hk
      obtain ⟨c, hc, hfit, hmx, hk⟩ := lkoW_ok hk
      have hrun := run_sliceBounds (P := P) (isS := false) (cap := len) hl hh hm h0 h1 h2 (Nat.le_refl _) (fun x hx => by cases hx)
      cases hx with
      | ro hx => cases hx
      | @ptr _ _ b hb =>
        refine ⟨_, _, run_sliceAt_arr ht hi hrun, hk, ?_⟩
        obtain ⟨arr, Tb, fz, q1, q2, q3, _⟩ := own_cells hs hc hb
        simp only [Option.getD_none, Int.toNat_natCast]
        by_cases hcl : len = (l.getD 0).toNat
        · have e1 : (h.getD (len : Int)).toNat - (l.getD 0).toNat = 0 := by omega
          rw [if_pos hcl, e1]; exact .osw0 (by omega)
        · rw [if_neg hcl, addr_add]
          refine .osw hb (by omega) (by omega) ?_
          have : (l.getD 0).toNat * i.size + (len - (l.getD 0).toNat) * i.size ≤ len * i.size := by rw [← Nat.add_mul]; exact Nat.mul_le_mul_right _ (by omega)
          omega
    | rop cs off =>
      obtain ⟨rfl, h0, h1, h2, hfit, hmx, hk⟩ := hk
      have hrun := run_sliceBounds (P := P) (isS := false) (cap := len) hl hh hm h0 h1 h2 (Nat.le_refl _) (fun x hx => by cases hx)
      cases hx with | ro hx => cases hx with
      | @rop b base _ _ g hb hc hd =>
        refine ⟨_, _, run_sliceAt_arr ht hi hrun, hk, .ro ?_⟩
        simp only [Option.getD_none, Int.toNat_natCast]
        have := (rep_part (w := w) (F := FSx φ S.own w) (a := ⟨b, base + off, none⟩) (n := len) (sz := i.size) (c := len - (l.getD 0).toNat) (l := (l.getD 0).toNat) (h := (h.getD (len : Int)).toNat) (cs := (cs.drop off).take (len * i.size)) (fun j => g (off + j)) rfl hb
          (fun j hj => by have := hc (off + j) (by omega); rwa [show base + (off + j) = base + off + j by omega] at this)
          (fun j d hj => by
            rw [List.getElem?_take] at hj
            split at hj
            · rw [List.getElem?_drop] at hj; exact hd _ d hj
            · cases hj) (by simp; omega) (by omega) (by omega)
          (p := if len = (l.getD 0).toNat then ⟨b, base + off, none⟩ else (⟨b, base + off, none⟩ : Addr).add ((l.getD 0).toNat * i.size)) (by
            split
            · exact ⟨rfl, rfl, .inl (by omega)⟩
            · rw [addr_add]; exact ⟨rfl, rfl, .inr rfl⟩) (by omega) (by omega)).1
        have e : (((cs.drop off).take (len * i.size)).drop ((l.getD 0).toNat * i.size)).take (((h.getD (len : Int)).toNat - (l.getD 0).toNat) * i.size) = (cs.drop (off + (l.getD 0).toNat * i.size)).take (((h.getD (len : Int)).toNat - (l.getD 0).toNat) * i.size) := by
          rw [List.drop_take, List.take_take, List.drop_drop, Nat.min_eq_left]
          have : (l.getD 0).toNat * i.size + ((h.getD (len : Int)).toNat - (l.getD 0).toNat) * i.size ≤ len * i.size := by rw [← Nat.add_mul]; exact Nat.mul_le_mul_right _ (by omega)
          omega
        rw [e] at this
        exact this
    | _ => exact hk.elim
  · have ht := tyOf_str he
    rw [he] at hk
    cases dx with
    | str s =>
      obtain ⟨rfl, h0, h1, h2, hk⟩ := hk
      obtain ⟨b, rfl, hb, hlm⟩ := hx.str_inv
      cases mx with
      | some x => exact hm.elim
      | none =>
        have hsz : b.size = s.length := by rw [ba_size, hb]
        have hrun := run_sliceBounds (P := P) (w := w) (isS := false) (len := b.size) (cap := b.size) (m := none) hl hh hm h0 (by rw [hsz]; exact h1) (by rw [hsz]; exact h2) (Nat.le_refl _) (fun x hx => by cases hx)
        refine ⟨_, _, run_sliceAt_str ht hrun, hk, .ro (.str ?_ ?_)⟩
        · rw [extract_list, hb, hsz]
        · rw [List.length_take]; have := List.length_drop (i := (l.getD 0).toNat) (l := s); omega
    | _ => exact hk.elim
end

#print axioms slcW_ok
end Go.Abs
