/-
  AN ABSTRACT WALK, sixth text: append, copy; bytes of a string and back; make.
-/
import Derived.Test.YtdjfnipabekkaaaAbs5
namespace Go.Abs
open Go.RowKit (Below)

theorem SatC.purge {w0 : Bas} {w : World} {φ : Loc} {S : St} {tmps : Array Value} (h : SatC w0 φ S tmps w) (id : Nat) : SatC w0 φ { S with env := Abs.purge id S.env } tmps w := by
  refine ⟨h.below, h.size, h.own, h.inj, fun s d hd => ?_, h.base, h.pin⟩
  rcases lk_purge hd with ⟨rfl, d', hd'⟩ | ⟨hd', hm⟩
  · obtain ⟨v, hv, _⟩ := h.env s d' hd'
    exact ⟨v, hv, .ro (.any v)⟩
  · exact h.env s d hd'

/-- An own block that is none yet. -/
theorem SatC.virt {w0 : Bas} {w : World} {φ : Loc} {S : St} {tmps : Array Value} (h : SatC w0 φ S tmps w) (hnm : NM S.nx S.own) :
    SatC w0 (Abs.upd φ S.nx (none, 0)) ⟨S.n, S.nx + 1, Abs.purge S.nx S.env, (S.nx, []) :: S.own⟩ tmps w := by
  have hF : ∀ b, FSx φ S.own w b → FSx (Abs.upd φ S.nx (none, 0)) ((S.nx, []) :: S.own) w b := fun b hb => by
    refine ⟨hb.1, fun i c hc => ?_, hb.3⟩
    simp only [lk] at hc
    split at hc
    · rename_i e; subst e; rw [upd_same]; simp
    · rename_i e; rw [upd_other _ _ e]; exact hb.2 i c hc
  refine ⟨h.below, h.size, fun id c hc => ?_, fun id id' c c' b hc hc' hb hb' => ?_, fun s d hd => ?_, h.base, fun i hi => by rw [upd_other _ _ (by have := hnm.lt; omega)]; exact h.pin i hi⟩
  · simp only [lk] at hc
    split at hc
    · rename_i e; cases hc; subst e
      exact ⟨by unfold OwnOk; rw [upd_same]; exact ⟨fun i d hd => by simp at hd, rfl⟩, fun b hb => by rw [upd_same] at hb; cases hb⟩
    · rename_i e
      obtain ⟨h1, h2⟩ := h.own id c hc
      refine ⟨?_, fun b hb => h2 b (by rwa [upd_other _ _ e] at hb)⟩
      unfold OwnOk at h1 ⊢
      rw [upd_other _ _ e]
      split
      · rename_i e1; rw [e1] at h1; exact ⟨fun i d hd => by obtain ⟨v, a1, a2⟩ := h1.1 i d hd; exact ⟨v, a1, (a2.mono (fun _ _ => rfl) hF).upd (hnm.nm id c hc e d (List.mem_of_getElem? hd))⟩, h1.2⟩
      · rename_i b e1
        rw [e1] at h1
        obtain ⟨arr', T', fz', k1, k2, k3, k4, k5⟩ := h1
        exact ⟨arr', T', fz', k1, k2, k3, k4, fun i v d hv hd => ⟨((k5 i v d hv hd).1.mono (fun _ _ => rfl) hF).upd (hnm.nm id c hc e d (List.mem_of_getElem? hd)), (k5 i v d hv hd).2⟩⟩
  · have key : ∀ i c'', lk i ((S.nx, ([] : List D)) :: S.own) = some c'' → (Abs.upd φ S.nx (none, 0) i).1 = some b → lk i S.own = some c'' ∧ (φ i).1 = some b := by
      intro i c'' hi hbi
      simp only [lk] at hi
      split at hi
      · rename_i e; subst e; rw [upd_same] at hbi; cases hbi
      · rename_i e; rw [upd_other _ _ e] at hbi; exact ⟨hi, hbi⟩
    exact h.inj id id' c c' b (key id c hc hb).1 (key id' c' hc' hb').1 (key id c hc hb).2 (key id' c' hc' hb').2
  · rcases lk_purge hd with ⟨rfl, d', hd'⟩ | ⟨hd', hm⟩
    · obtain ⟨v, hv, _⟩ := h.env s d' hd'
      exact ⟨v, hv, .ro (.any v)⟩
    · obtain ⟨v, hv, hr⟩ := h.env s d hd'
      exact ⟨v, hv, (hr.mono (fun _ _ => rfl) hF).upd hm⟩

/-! ### What an append, a copy takes its cells from -/
def srcW (S : St) (sz : Nat) (d : D) (k : Nat → List D → Prop) : Prop :=
  match d with
  | .str s => sz = 1 ∧ k s.length (s.map bD)
  | .nils => k 0 []
  | .sl sz' n cs | .slx sz' n cs => sz' = sz ∧ k n cs
  | .osl id sz' n => lkoW id S.own fun c => sz' = sz ∧ allP c ∧ c.length = n * sz ∧ k n c
  | .osw id off sz' n => lkoW id S.own fun c => sz' = sz ∧ allP c ∧ off + n * sz ≤ c.length ∧ k n ((c.drop off).take (n * sz))
  | _ => False

structure Src (P : Program) (w : World) (F : Nat → Prop) (sz : Nat) (x : Value) (n : Nat) (cs : List D) (vs : List Value) : Prop where
  len : ∀ w', (Builtin.lenOf x).run P w' = .ok n w'
  cells : ∀ m, m ≤ n → ∀ w', (∀ b, b < w.heap.size → w'.heap[b]? = w.heap[b]?) → (Builtin.firstCells sz m x).run P w' = .ok (vs.take (m * sz)).toArray w'
  lv : vs.length = n * sz
  lc : cs.length = n * sz
  rep : ∀ (i : Nat) (v : Value) (d : D), vs[i]? = some v → cs[i]? = some d → RepR w F v d ∧ v.oneCell' = true

theorem src_slice {P : Program} {w : World} {F : Nat → Prop} (hF : ∀ b, F b → b < w.heap.size) {a : Addr} {sz n c : Nat} {cs : List D} (g : Nat → Value) (hsp : a.spot = none) (hb : F a.block) (hl : cs.length = n * sz)
    (hc : ∀ (j : Nat), j < n * sz → w.cell? ⟨a.block, a.off + j, none⟩ = some (g j) ∧ (g j).oneCell' = true) (hd : ∀ (j : Nat) (d : D), cs[j]? = some d → RepR w F (g j) d) :
    Src P w F sz (.slice (some a) n c) n cs ((List.range (n * sz)).map g) := by
  refine ⟨fun w' => rfl, fun m hm w' hw' => ?_, by simp, hl, fun i v d hv hdd => ?_⟩
  · have hle : m * sz ≤ n * sz := Nat.mul_le_mul_right _ hm
    have := run_loadCells (P := P) w' a (m * sz) g (fun j hj => by
      rw [addr_add' hsp, World.cell?_of_block (w := w) (a := ⟨a.block, a.off + j, none⟩) (hw' _ (hF _ hb))]; exact (hc j (by omega)).1)
    simp only [Builtin.firstCells, this]
    congr 2
    rw [← List.map_take, List.take_range, Nat.min_eq_left hle]
  · simp only [List.getElem?_map] at hv
    by_cases hi : i < n * sz
    · simp [hi] at hv; subst hv; exact ⟨hd i d hdd, (hc i hi).2⟩
    · simp [hi] at hv

theorem src_empty {P : Program} {w : World} {F : Nat → Prop} (p : Option Addr) (sz c : Nat) : Src P w F sz (.slice p 0 c) 0 [] [] := by
  refine ⟨fun w' => rfl, fun m hm w' hw' => ?_, by simp, by simp, fun i v d hv => by simp at hv⟩
  obtain rfl : m = 0 := by omega
  cases p with
  | none => simp [Builtin.firstCells]
  | some a =>
    have := run_loadCells (P := P) w' a 0 (fun _ => undef) (fun j hj => by omega)
    simpa [Builtin.firstCells] using this

theorem srcW_ok {P : Program} {w0 : Bas} {w : World} {φ : Loc} {S : St} {tmps : Array Value} (hs : SatC w0 φ S tmps w) {x : Value} {d : D} {sz : Nat} {k : Nat → List D → Prop} (hr : Rep φ w (FSx φ S.own w) x d) (h : srcW S sz d k) :
    ∃ n cs vs, k n cs ∧ Src P w (FSx φ S.own w) sz x n cs vs := by
  have hF : ∀ b, FSx φ S.own w b → b < w.heap.size := fun b hb => hb.1
  cases d with
  | str s =>
    obtain ⟨rfl, hk⟩ := h
    obtain ⟨b, rfl, hb, hl⟩ := hr.str_inv
    refine ⟨_, _, s.map (fun b => Value.int .u8 b.toNat), hk, ?_, ?_, by simp, by simp, ?_⟩
    · intro w'; simp [Builtin.lenOf, ba_size, hb]
    · intro m hm w' _
      simp only [Builtin.firstCells, Sem.run_pure, Nat.mul_one]
      congr 1
      apply Array.ext'
      subst hb
      simp [List.map_take]
    · intro i v d hv hd
      simp only [List.getElem?_map] at hv hd
      cases hi : s[i]? with
      | none => simp [hi] at hv
      | some c =>
        simp [hi] at hv hd
        subst hv; subst hd
        have := c.toNat_lt
        exact ⟨.int (by show (0 : Int) ≤ _; omega) (by show _ ≤ (255 : Int); omega), rfl⟩
  | nils =>
    cases hr with
    | ro hr => cases hr; exact ⟨0, [], [], h, src_empty none sz 0⟩
  | sl sz' n cs =>
    obtain ⟨rfl, hk⟩ := h
    cases hr with
    | ro hr =>
      cases hr with
      | sl0 hc => exact ⟨_, _, _, hk, src_empty _ _ _⟩
      | sl g a b c d e f i => exact ⟨_, _, _, hk, src_slice hF g a b e f i⟩
  | slx sz' n cs =>
    obtain ⟨rfl, hk⟩ := h
    cases hr with
    | ro hr =>
      cases hr with
      | slx0 => exact ⟨_, _, _, hk, src_empty _ _ _⟩
      | slx g a b c d e f => exact ⟨_, _, _, hk, src_slice hF g a b d e f⟩
  | osl id sz' n =>
    obtain ⟨c, hc, rfl, hp, hl, hk⟩ := lkoW_ok h
    cases hr with
    | ro hr => cases hr
    | osl0 hb =>
      have : c = [] := List.eq_nil_of_length_eq_zero (by simpa using hl)
      subst this
      exact ⟨_, _, _, hk, src_empty _ _ _⟩
    | @osl _ _ _ c' b hb he hn hm =>
      obtain ⟨arr, T, fz, h1, h2, h3, h4, h5, h6⟩ := own_cells hs hc hb
      have hbl := (hs.own id c hc).1.lt hb
      refine ⟨_, _, (List.range (n * sz')).map (fun j => arr.getD j undef), hk, ⟨fun w' => rfl, fun m hm w' hw' => ?_, by simp, hl, fun i v d hv hdd => ?_⟩⟩
      · have hle : m * sz' ≤ n * sz' := Nat.mul_le_mul_right _ hm
        have := run_loadCells (P := P) w' ⟨b, 0, none⟩ (m * sz') (fun j => arr.getD j undef) (fun j hj => by
          rw [addr_add, World.cell?_of_block (w := w) (hw' _ hbl), Nat.zero_add]; exact h5 j (by omega))
        simp only [Builtin.firstCells, this]
        congr 2
        rw [← List.map_take, List.take_range, Nat.min_eq_left hle]
      · simp only [List.getElem?_map] at hv
        by_cases hi : i < n * sz'
        · simp only [hi, List.getElem?_range, Option.map_some, Option.some.injEq] at hv
          subst hv; exact ⟨(h6 i d hdd).1.pure (hp d (List.mem_of_getElem? hdd)), (h6 i d hdd).2⟩
        · simp [hi] at hv
  | osw id off sz' n =>
    obtain ⟨c, hc, rfl, hp, hl, hk⟩ := lkoW_ok h
    cases hr with
    | ro hr => cases hr
    | osw0 hc => rw [Nat.zero_mul, List.take_zero] at hk; exact ⟨_, _, _, hk, src_empty _ _ _⟩
    | @osw _ _ _ _ c' b hb hn hm hsz =>
      obtain ⟨arr, T, fz, h1, h2, h3, h4, h5, h6⟩ := own_cells hs hc hb
      have hbl := (hs.own id c hc).1.lt hb
      refine ⟨_, _, (List.range (n * sz')).map (fun j => arr.getD (off + j) undef), hk, ⟨fun w' => rfl, fun m hm w' hw' => ?_, by simp, by simp; omega, fun i v d hv hdd => ?_⟩⟩
      · have hle : m * sz' ≤ n * sz' := Nat.mul_le_mul_right _ hm
        have := run_loadCells (P := P) w' ⟨b, off, none⟩ (m * sz') (fun j => arr.getD (off + j) undef) (fun j hj => by
          rw [addr_add, World.cell?_of_block (w := w) (hw' _ hbl)]; exact h5 _ (by omega))
        simp only [Builtin.firstCells, this]
        congr 2
        rw [← List.map_take, List.take_range, Nat.min_eq_left hle]
      · simp only [List.getElem?_map] at hv
        by_cases hi : i < n * sz'
        · simp only [hi, List.getElem?_range, Option.map_some, Option.some.injEq] at hv
          simp only [List.getElem?_take, hi, if_true, List.getElem?_drop] at hdd
          subst hv; exact ⟨(h6 _ d hdd).1.pure (hp d (List.mem_of_getElem? hdd)), (h6 _ d hdd).2⟩
        · simp [hi] at hv
  | _ => exact h.elim

/-! ### append, as the machine runs it -/
section
variable {P : Program} {w : World} {sT xT ty e : TypeId} {i : TypeInfo} {z : Value} {u : TypeDesc} {x : Value} {p : Option Addr} {n c m : Nat}

theorem run_append_fits (ht : P.underlying sT = some (.slice e)) (hi : P.info? e = some i) (hx : P.underlying xT = some u) (hu : ∀ k, u ≠ .int k) {vs : List Value} (hl : ∀ w', (Builtin.lenOf x).run P w' = .ok m w')
    (hv : (Builtin.firstCells i.size m x).run P w = .ok vs.toArray w) (hfit : n + m ≤ c) {w' : World} (hst : ∀ a, p = some a → (storeCells (a.add (n * i.size)) vs).run P w = .ok () w') (hno : p = none → w' = w) :
    (Builtin.append_ #[sT, xT] ty #[.slice p n c, x]).run P w = .ok (.slice p (n + m) c) w' := by
  have hint : (match u with | .int _ => true | _ => false) = false := by
    cases u <;> first | rfl | (rename_i k; exact (hu k rfl).elim)
  cases p with
  | none =>
    cases hno rfl
    simp [Builtin.append_, run_underlying ht, run_underlying hx, hint, sizeOf, typeInfo, hi, hl, hv, hfit]
  | some a =>
    have h1 := hst a rfl
    simp [Builtin.append_, run_underlying ht, run_underlying hx, hint, sizeOf, typeInfo, hi, hl, hv, hfit, h1]

theorem run_append_grows (ht : P.underlying sT = some (.slice e)) (hi : P.info? e = some i) (hz : i.zero = some z) (hx : P.underlying xT = some u) (hu : ∀ k, u ≠ .int k) {os vs : List Value}
    (hl : ∀ w', (Builtin.lenOf x).run P w' = .ok m w') (hv : (Builtin.firstCells i.size m x).run P w.drew = .ok vs.toArray w.drew) (ho : (Builtin.firstCells i.size n (.slice p n c)).run P w.drew = .ok os.toArray w.drew)
    (hg : c < n + m) (hby : (n + m) * i.bytes ≤ 140737488355328) (h63 : n + m ≤ maxLen) :
    (Builtin.append_ #[sT, xT] ty #[.slice p n c, x]).run P w = .ok (.slice (some ⟨w.heap.size, 0, none⟩) (n + m) (grownCap w (n + m) c e))
      (w.drew.alloc (.cells (os.toArray ++ vs.toArray ++ Builtin.zeroCells z.cells (grownCap w (n + m) c e - (n + m))) e)) := by
  have hint : (match u with | .int _ => true | _ => false) = false := by
    cases u <;> first | rfl | (rename_i k; exact (hu k rfl).elim)
  have hn : ¬ (n + m ≤ c) := by omega
  have h63' : ¬ (9223372036854775807 < ((n : Int) + (m : Int))) := by simp only [maxLen] at h63; omega
  have hf := growslice_fits hg hby
  have h48' : ¬ (281474976710656 < Builtin.nextslicecap (n + m) c * i.bytes) := by omega
  simp [Builtin.append_, run_underlying ht, run_underlying hx, hint, sizeOf, typeInfo, zeroValue, hi, hz, hl, hn, h63', h48', Question.forced, hv, ho, newRow, grownCap]
  congr 2
  apply Array.ext'
  simp
end

/-! ### append, on data -/
def nmC (id : Nat) (cs : List D) : Prop := ∀ d ∈ cs, mn id d = false
def nmW (id : Nat) : List (Nat × List D) → Prop → Prop
  | [], A => id < pinB ∧ A
  | (_, c) :: r, A => nmC id c ∧ nmW id r A
theorem nmW_ok' {id : Nat} : ∀ {own : List (Nat × List D)} {A : Prop}, nmW id own A → (∀ i c, lk i own = some c → ∀ d ∈ c, mn id d = false) ∧ id < pinB ∧ A
  | [], A, h => ⟨fun i c hc => by simp [lk] at hc, h⟩
  | (j, x) :: r, A, h => by
    obtain ⟨hx, h⟩ := h
    obtain ⟨h1, h2⟩ := nmW_ok' h
    refine ⟨fun i c hc => ?_, h2⟩
    simp only [lk] at hc
    split at hc
    · cases hc; exact hx
    · exact h1 i c hc
theorem nmW_ok {id : Nat} {own : List (Nat × List D)} {A : Prop} (h : nmW id own A) : NM id own ∧ A := ⟨⟨(nmW_ok' h).2.1, fun i c hc _ => (nmW_ok' h).1 i c hc⟩, (nmW_ok' h).2.2⟩
def pgW (id : Nat) (env : List (Nat × D)) (k : List (Nat × D) → Prop) : Prop := k (purge id env)
def soW (id : Nat) (cs : List D) (own : List (Nat × List D)) (k : List (Nat × List D) → Prop) : Prop := k (setO id cs own)

/-- What names a block drops out of the own blocks' cells. -/
def pgD (id : Nat) (d : D) : D := if mn id d = true then .any else d
def purgeO (id : Nat) (own : List (Nat × List D)) : List (Nat × List D) := own.map fun p => (p.1, p.2.map (pgD id))
def pgoW (id : Nat) (own : List (Nat × List D)) (k : List (Nat × List D) → Prop) : Prop := k (purgeO id own)
theorem lk_purgeO {id i : Nat} : ∀ {own : List (Nat × List D)}, lk i (purgeO id own) = (lk i own).map fun c => c.map (pgD id)
  | [] => rfl
  | (j, c) :: r => by
    have ih := lk_purgeO (id := id) (i := i) (own := r)
    simp only [purgeO, List.map_cons, lk] at ih ⊢
    split
    · rfl
    · exact ih
theorem mn_pgD (id : Nat) (d : D) : mn id (pgD id d) = false := by
  unfold pgD; split
  · rfl
  · rename_i h; simpa using h
theorem pgD_nm {id : Nat} {c : List D} (h : nmC id c) : c.map (pgD id) = c := by
  conv => rhs; rw [← List.map_id c]
  exact List.map_congr_left fun d hd => by unfold pgD; rw [h d hd]; rfl
theorem FS_purgeO {id : Nat} {φ : Loc} {own : List (Nat × List D)} {w : World} : FSx φ (purgeO id own) w = FSx φ own w := by
  funext b
  apply propext
  constructor
  · intro h
    exact ⟨h.1, fun i c hc => h.2 i (c.map (pgD id)) (by rw [lk_purgeO, hc]; rfl), h.3⟩
  · intro h
    refine ⟨h.1, fun i c hc => ?_, h.3⟩
    rw [lk_purgeO] at hc
    cases e : lk i own with
    | none => rw [e] at hc; cases hc
    | some c0 => exact h.2 i c0 e
theorem SatC.purgeO {w0 : Bas} {w : World} {φ : Loc} {S : St} {tmps : Array Value} (hs : SatC w0 φ S tmps w) (id : Nat) : SatC w0 φ ⟨S.n, S.nx, S.env, purgeO id S.own⟩ tmps w := by
  have old : ∀ {i c}, lk i (Abs.purgeO id S.own) = some c → ∃ c0, lk i S.own = some c0 ∧ c = c0.map (pgD id) := by
    intro i c hc
    rw [lk_purgeO] at hc
    cases e : lk i S.own with
    | none => rw [e] at hc; cases hc
    | some c0 => rw [e] at hc; exact ⟨c0, rfl, (Option.some.inj hc).symm⟩
  refine ⟨hs.below, hs.size, fun i c hc => ?_, fun i i' c c' b h1 h2 => ?_, fun s d hd => ?_, hs.base, hs.pin⟩
  · obtain ⟨c0, h0, rfl⟩ := old hc
    obtain ⟨h1, h2⟩ := hs.own i c0 h0
    refine ⟨?_, h2⟩
    show OwnOk w (FSx φ (Abs.purgeO id S.own) w) φ i _
    rw [FS_purgeO]
    unfold OwnOk at h1 ⊢
    revert h1
    cases (φ i).1 with
    | none =>
      rintro ⟨h, h'⟩
      refine ⟨fun j d hd => ?_, h'⟩
      rw [List.getElem?_map] at hd
      cases e0 : c0[j]? with
      | none => rw [e0] at hd; cases hd
      | some d0 =>
        rw [e0] at hd
        have hd : pgD id d0 = d := Option.some.inj hd
        subst hd
        obtain ⟨v, a1, a2⟩ := h j d0 e0
        refine ⟨v, a1, ?_⟩
        unfold pgD; split
        · exact .ro (.any _)
        · exact a2
    | some b =>
      rintro ⟨arr, T, fz, a1, a2, a3, a4, a5⟩
      refine ⟨arr, T, fz, a1, a2, a3, by simpa using a4, fun j v d hv hd => ?_⟩
      rw [List.getElem?_map] at hd
      cases e0 : c0[j]? with
      | none => rw [e0] at hd; cases hd
      | some d0 =>
        rw [e0] at hd
        have hd : pgD id d0 = d := Option.some.inj hd
        subst hd
        refine ⟨?_, (a5 j v d0 hv e0).2⟩
        unfold pgD; split
        · exact .ro (.any _)
        · exact (a5 j v d0 hv e0).1
  · obtain ⟨c0, h0, _⟩ := old h1
    obtain ⟨c0', h0', _⟩ := old h2
    exact hs.inj i i' c0 c0' b h0 h0'
  · show ∃ v, _ ∧ Rep φ w (FSx φ (Abs.purgeO id S.own) w) v d
    rw [FS_purgeO]; exact hs.env s d hd

/-- A new own block with these cells. -/
def newW (S : St) (cs : List D) (k : St → Prop) : Prop := nmW S.nx S.own (pgW S.nx S.env fun env' => k ⟨S.n, S.nx + 1, env', (S.nx, cs) :: S.own⟩)

def roomW (n by_ : Nat) (A : Prop) : Prop := n * by_ ≤ 140737488355328 ∧ n ≤ maxLen ∧ A

def appW (S : St) (sz by_ : Nat) (s : D) (m : Nat) (es : List D) (k : D → St → Prop) : Prop :=
  match s with
  | .osl id sz' n => lkoW id S.own fun c => sz' = sz ∧ c.length = n * sz ∧ nmC id c ∧ id < pinB ∧ roomW (n + m) by_ (pgoW id S.own fun own0 => pgW id S.env fun env' => soW id (c ++ es) own0 fun own' => k (.osl id sz (n + m)) ⟨S.n, S.nx, env', own'⟩)
  | .nils => roomW m by_ (newW S es fun S' => k (.osl S.nx sz m) S')
  | .slx sz' n cs => sz' = sz ∧ roomW (n + m) by_ ((n = 0 ∧ newW S es fun S' => k (.osl S.nx sz m) S') ∨ (0 < m ∧ newW S (cs ++ es) fun S' => k (.osl S.nx sz (n + m)) S') ∨ k (.sl sz (n + m) (cs ++ es)) S)
  | _ => False

theorem Rep.of_drew {φ : Loc} {w : World} {own : List (Nat × List D)} {v : Value} {d : D} (h : Rep φ w (FSx φ own w) v d) : Rep φ w.drew (FSx φ own w.drew) v d := h.ext (Below.refl _ _).drew
theorem SatC.drew {w0 : Bas} {w : World} {φ : Loc} {S : St} {tmps : Array Value} (h : SatC w0 φ S tmps w) : SatC w0 φ S tmps w.drew := h.ext (Below.refl _ _).drew

theorem mn_of_repR {w : World} {F : Nat → Prop} {v : Value} {d : D} (h : RepR w F v d) (id : Nat) : mn id d = false := by
  cases h <;> rfl

theorem zeroCells_size (z : Array Value) (n : Nat) : (Builtin.zeroCells z n).size = n * z.size := by simp [Builtin.zeroCells]

/-- The cells of the new row: what was there, what came, zeros. -/
theorem row_get {os vs : List Value} {zs : Array Value} {c es : List D} (ho : os.length = c.length) {j : Nat} {v : Value} {d : D}
    (hlv : vs.length = es.length) (hv : (os.toArray ++ vs.toArray ++ zs)[j]? = some v) (hd : (c ++ es)[j]? = some d) : (os[j]? = some v ∧ c[j]? = some d) ∨ (vs[j - c.length]? = some v ∧ es[j - c.length]? = some d) := by
  have hj : j < c.length + es.length := by have := (List.getElem?_eq_some_iff.1 hd).1; simpa using this
  rw [List.getElem?_append] at hd
  rw [Array.getElem?_append, if_pos (by simp; omega), Array.getElem?_append] at hv
  by_cases h : j < c.length
  · rw [if_pos h] at hd; rw [if_pos (by simp; omega)] at hv; exact .inl ⟨by simpa using hv, hd⟩
  · rw [if_neg h] at hd; rw [if_neg (by simp; omega)] at hv; exact .inr ⟨by simpa [ho] using hv, hd⟩

theorem row_size {os vs : List Value} {z : Array Value} {n m sz cap : Nat} (ho : os.length = n * sz) (hv : vs.length = m * sz) (hz : z.size = sz) (hc : n + m ≤ cap) :
    (os.toArray ++ vs.toArray ++ Builtin.zeroCells z (cap - (n + m))).size = cap * sz := by
  simp only [Array.size_append, List.size_toArray, zeroCells_size, hz, ho, hv, ← Nat.add_mul]
  congr 1
  omega

theorem SatC.congr_own {w0 : Bas} {w : World} {φ : Loc} {n nx : Nat} {env : List (Nat × D)} {own own' : List (Nat × List D)} {tmps : Array Value} (h : SatC w0 φ ⟨n, nx, env, own⟩ tmps w) (he : ∀ j, lk j own' = lk j own) : SatC w0 φ ⟨n, nx, env, own'⟩ tmps w := by
  have hF : ∀ w b, FSx φ own w b → FSx φ own' w b := fun w b hb => ⟨hb.1, fun i c hc => hb.2 i c (by rw [← he]; exact hc), hb.3⟩
  refine ⟨h.below, h.size, fun i c hc => ⟨((h.own i c (by rw [← he]; exact hc)).1).mono (fun _ _ => rfl) (hF w) (fun _ _ => rfl), (h.own i c (by rw [← he]; exact hc)).2⟩,
    fun i i' c c' b hc hc' => h.inj i i' c c' b (by rw [← he]; exact hc) (by rw [← he]; exact hc'), fun s d hd => ?_, h.base, h.pin⟩
  obtain ⟨v, hv, hr⟩ := h.env s d hd
  exact ⟨v, hv, hr.mono (fun _ _ => rfl) (hF w)⟩

theorem lk_setO_eq {id : Nat} {c : List D} {own : List (Nat × List D)} (h : lk id own = some c) (j : Nat) : lk j (setO id c own) = lk j own := by
  by_cases e : j = id
  · subst e; rw [lk_setO_same h, h]
  · exact lk_setO_other e

/-- A new row behind a draw: the call's own from here on. -/
theorem SatC.newDrew {w0 : Bas} {w : World} {φ : Loc} {S : St} {tmps : Array Value} (hs : SatC w0 φ S tmps w) {os vs : List Value} {zs : Array Value} {c es : List D} {T : TypeId} {arr : Array Value} (harr : arr = os.toArray ++ vs.toArray ++ zs)
    (ho : os.length = c.length) (hlv : vs.length = es.length) (h1 : ∀ (i : Nat) (v : Value) (d : D), os[i]? = some v → c[i]? = some d → RepR w (FSx φ S.own w) v d ∧ v.oneCell' = true)
    (h2 : ∀ (i : Nat) (v : Value) (d : D), vs[i]? = some v → es[i]? = some d → RepR w (FSx φ S.own w) v d ∧ v.oneCell' = true) (hnm : NM S.nx S.own) :
    SatC w0 (Abs.upd φ S.nx (some w.heap.size, arr.size)) ⟨S.n, S.nx + 1, Abs.purge S.nx S.env, (S.nx, c ++ es) :: S.own⟩ tmps (w.drew.alloc (.cells arr T)) := by
  have := hs.drew.new arr T (0, 0) (c ++ es) (fun o _ => by simp) (by subst harr; simp; omega) (fun i v d hv hd => by
    subst harr
    rcases row_get ho hlv hv hd with ⟨a, b⟩ | ⟨a, b⟩
    · exact ⟨(Rep.ro (h1 _ v d a b).1).of_drew, (h1 _ v d a b).2, mn_of_repR (h1 _ v d a b).1 _⟩
    · exact ⟨(Rep.ro (h2 _ v d a b).1).of_drew, (h2 _ v d a b).2, mn_of_repR (h2 _ v d a b).1 _⟩) hnm
  simpa using this

structure AppTy (P : Program) (sT xT e : TypeId) (i : TypeInfo) (z : Value) (u : TypeDesc) : Prop where
  ht : P.underlying sT = some (.slice e)
  hi : P.info? e = some i
  hz : i.zero = some z
  hzs : z.cells.size = i.size
  hx : P.underlying xT = some u
  hu : ∀ k, u ≠ .int k

/-- What an append leaves. -/
def Left (w0 : Bas) (S : St) (tmps : Array Value) (k : D → St → Prop) (v : Value) (w' : World) : Prop := ∃ φ' d S', k d S' ∧ SatC w0 φ' S' tmps w' ∧ Rep φ' w' (FSx φ' S'.own w') v d ∧ S'.n = S.n

section
variable {P : Program} {w0 : Bas} {w : World} {φ : Loc} {S : St} {tmps : Array Value} {sT xT ty e : TypeId} {i : TypeInfo} {z : Value} {u : TypeDesc} {x : Value} {m : Nat} {es : List D} {vs : List Value}

/-- .. onto an empty slice without capacity. -/
theorem app_empty (hs : SatC w0 φ S tmps w) (T : AppTy P sT xT e i z u) (src : Src P w (FSx φ S.own w) i.size x m es vs) {p : Option Addr} {k : D → St → Prop} (h : roomW m i.bytes (newW S es fun S' => k (.osl S.nx i.size m) S')) :
    ∃ v w', (Builtin.append_ #[sT, xT] ty #[.slice p 0 0, x]).run P w = .ok v w' ∧ Left w0 S tmps k v w' := by
  obtain ⟨hby, h63, h⟩ := h
  obtain ⟨hnm, hk⟩ := nmW_ok h
  have hve : vs.length = es.length := by rw [src.lv, src.lc]
  by_cases hm : m = 0
  · subst hm
    have h0 : vs = [] := List.eq_nil_of_length_eq_zero (by rw [src.lv]; simp)
    have h1 : es = [] := List.eq_nil_of_length_eq_zero (by rw [src.lc]; simp)
    subst h0; subst h1
    have hv := src.cells 0 (Nat.le_refl _) w (fun _ _ => rfl)
    simp only [List.take_nil] at hv
    refine ⟨_, _, run_append_fits T.ht T.hi T.hx T.hu src.len hv (by omega) (w' := w) (fun a _ => rfl) (fun _ => rfl), _, _, _, hk, hs.virt hnm, ?_, rfl⟩
    exact .osl0 (by rw [upd_same])
  · have hv := src.cells m (Nat.le_refl _) w.drew (fun _ _ => rfl)
    rw [List.take_of_length_le (by rw [src.lv]; exact Nat.le_refl _)] at hv
    have ho := (src_empty (P := P) (w := w) (F := FSx φ S.own w) p i.size 0).cells 0 (Nat.le_refl _) w.drew (fun _ _ => rfl)
    simp only [List.take_nil] at ho
    have hrun := run_append_grows (ty := ty) (p := p) (c := 0) T.ht T.hi T.hz T.hx T.hu src.len hv ho (by omega) (by simpa using hby) (by simpa using h63)
    refine ⟨_, _, hrun, _, _, _, hk, hs.newDrew (c := []) rfl rfl hve (fun i v d hv => by simp at hv) src.rep hnm, ?_, rfl⟩
    have hge : 0 + m ≤ grownCap w (0 + m) 0 e := grownCap_ge w _ _ _
    have hle : grownCap w (0 + m) 0 e ≤ maxLen := grownCap_le_maxLen w _ _ _ (by simpa using h63)
    rw [Nat.zero_add] at hge hle ⊢
    refine Rep.osl (by rw [upd_same]) ?_ hge hle
    rw [upd_same]
    have := row_size (os := []) (n := 0) (by simp) src.lv T.hzs (cap := grownCap w m 0 e) (by simpa using hge)
    simpa using this.symm
end

#print axioms run_append_grows
#print axioms app_empty
end Go.Abs
