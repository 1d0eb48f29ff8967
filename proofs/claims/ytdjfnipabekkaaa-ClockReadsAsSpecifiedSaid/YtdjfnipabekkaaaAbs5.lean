/-
  AN ABSTRACT WALK, fifth text: the operations on memory, each by a law: loads, stores, places, slices, append, copy, conversions.
-/
import Derived.Test.YtdjfnipabekkaaaAbs4
import Derived.Lib.ConvBytes
namespace Go.Abs
open Go.RowKit (Below)

/-! ### Reading a list of cells -/
def nthW (cs : List D) (i : Nat) (k : D → Prop) : Prop := ∃ h : i < cs.length, k cs[i]
theorem nthW_cons (d : D) (r : List D) (i : Nat) (k : D → Prop) : nthW (d :: r) i k = if i = 0 then k d else nthW r (i - 1) k := by
  unfold nthW
  cases i with
  | zero => simp
  | succ i => simp
theorem nthW_map {α : Type} (f : α → D) (xs : List α) (i : Nat) (k : D → Prop) : nthW (xs.map f) i k = ∃ h : i < xs.length, k (f xs[i]) := by
  unfold nthW; simp
theorem nthW_ok {cs : List D} {i : Nat} {k : D → Prop} (h : nthW cs i k) : ∃ d, cs[i]? = some d ∧ k d := ⟨_, by simp [h.1], h.2⟩

def rdW (ag : Bool) (sz : Nat) (cs : List D) (off : Nat) (mk : List D → D) (k : D → Prop) : Prop :=
  match ag with
  | true => off + sz ≤ cs.length ∧ k (mk ((cs.drop off).take sz))
  | false => nthW cs off k
theorem rdW_true (sz : Nat) (cs : List D) (off : Nat) (mk : List D → D) (k : D → Prop) : rdW true sz cs off mk k = (off + sz ≤ cs.length ∧ k (mk ((cs.drop off).take sz))) := rfl
theorem rdW_false (sz : Nat) (cs : List D) (off : Nat) (mk : List D → D) (k : D → Prop) : rdW false sz cs off mk k = nthW cs off k := rfl

def loadW (S : St) (p : D) (ag : Bool) (sz : Nat) (k : D → Prop) : Prop :=
  match p with
  | .rop cs off => rdW ag sz cs off .agg k
  | .ptr id off => lkoW id S.own fun c => rdW ag sz c off .oag k
  | _ => False
theorem loadW_rop (S : St) (cs : List D) (off : Nat) (ag : Bool) (sz : Nat) (k : D → Prop) : loadW S (.rop cs off) ag sz k = rdW ag sz cs off .agg k := _root_.id rfl
theorem loadW_ptr (n nx : Nat) (env : List (Nat × D)) (own : List (Nat × List D)) (id off : Nat) (ag : Bool) (sz : Nat) (k : D → Prop) : loadW ⟨n, nx, env, own⟩ (.ptr id off) ag sz k = lkoW id own fun c => rdW ag sz c off .oag k := _root_.id rfl

theorem addr_add (b o n : Nat) : (⟨b, o, none⟩ : Addr).add n = ⟨b, o + n, none⟩ := by unfold Addr.add; split <;> simp_all
theorem addr_add' {a : Addr} (h : a.spot = none) (n : Nat) : a.add n = ⟨a.block, a.off + n, none⟩ := by
  obtain ⟨b, o, s⟩ := a; simp only at h; subst h; exact addr_add b o n

theorem run_load_cell {P : Program} {w : World} {a : Addr} {v : Value} (h : w.cell? a = some v) : (load a).run P w = .ok v w := by
  rw [run_load, h]

/-- A variable of one cell, of several: as the machine loads it. -/
theorem run_loadVar {P : Program} {w : World} {t : TypeId} {i : TypeInfo} {ag : Bool} {b o : Nat} (hag : isAg (tyOf P t) = some ag) (hi : P.info? t = some i) (f : Nat → Value)
    (h : ∀ j, j < (if ag = true then i.size else 1) → w.cell? ⟨b, o + j, none⟩ = some (f j)) :
    (loadVar t ⟨b, o, none⟩).run P w = .ok (if ag = true then .agg ((List.range i.size).map f).toArray else f 0) w := by
  unfold loadVar
  rw [Sem.run_bind, run_isAgg hag, Result.andThen_ok]
  cases ag with
  | true =>
    have hl := run_loadCells (P := P) w ⟨b, o, none⟩ i.size f (fun j hj => by rw [addr_add]; exact h j (by simpa using hj))
    simp [sizeOf, typeInfo, hi, hl]
  | false => simpa using run_load_cell (h 0 (by simp))

theorem loadW_ok {P : Program} {w0 : Bas} {w : World} {φ : Loc} {S : St} {tmps : Array Value} (hs : SatC w0 φ S tmps w) {p : Value} {d : D} {ag : Bool} {t : TypeId} {i : TypeInfo} {k : D → Prop} (hr : Rep φ w (FSx φ S.own w) p d)
    (hag : isAg (tyOf P t) = some ag) (hi : P.info? t = some i) (h : loadW S d ag i.size k) : ∃ v d', (Instr.loadAt t p).run P w = .ok v w ∧ k d' ∧ Rep φ w (FSx φ S.own w) v d' := by
  have core : ∀ (b o off : Nat) (cs : List D) (mk : List D → D) (g : Nat → Value), (∀ j, j < cs.length → w.cell? ⟨b, o + j, none⟩ = some (g j) ∧ (g j).oneCell' = true) →
      (∀ (j : Nat) (d : D), cs[j]? = some d → Rep φ w (FSx φ S.own w) (g j) d) →
      (∀ (vs : Array Value) (ds : List D), vs.size = ds.length → (∀ (i : Nat) (v : Value), vs[i]? = some v → v.oneCell' = true) → (∀ (j : Nat) (v : Value) (d : D), vs[j]? = some v → ds[j]? = some d → ∃ j', v = g j' ∧ cs[j']? = some d) → Rep φ w (FSx φ S.own w) (.agg vs) (mk ds)) →
      rdW ag i.size cs off mk k → ∃ v d', (loadVar t ⟨b, o + off, none⟩).run P w = .ok v w ∧ k d' ∧ Rep φ w (FSx φ S.own w) v d' := by
    intro b o off cs mk g hc hd hmk h
    cases ag with
    | true =>
      obtain ⟨hl, hk⟩ := h
      have hrun := run_loadVar (P := P) (w := w) (b := b) (o := o + off) hag hi (fun j => g (off + j)) (fun j hj => by
        have := (hc (off + j) (by simp at hj; omega)).1
        rwa [show o + (off + j) = o + off + j by omega] at this)
      refine ⟨_, _, hrun, hk, ?_⟩
      simp only [if_true]
      refine hmk _ _ (by simp; omega) (fun j v hv => ?_) (fun j v d hv hd' => ?_)
      · simp only [List.getElem?_toArray, List.getElem?_map] at hv
        by_cases hj : j < i.size
        · simp [hj] at hv; subst hv; exact (hc _ (by omega)).2
        · simp [hj] at hv
      · simp only [List.getElem?_toArray, List.getElem?_map] at hv
        by_cases hj : j < i.size
        · simp [hj] at hv
          simp only [List.getElem?_take, hj, if_true, List.getElem?_drop] at hd'
          exact ⟨off + j, hv.symm, hd'⟩
        · simp [hj] at hv
    | false =>
      obtain ⟨d', hd', hk⟩ := nthW_ok h
      have hlt : off < cs.length := (List.getElem?_eq_some_iff.1 hd').1
      have hrun := run_loadVar (P := P) (w := w) (b := b) (o := o + off) hag hi (fun j => g (off + j)) (fun j hj => by
        have e : j = 0 := by simp at hj; omega
        subst e
        have := (hc off hlt).1
        simpa using this)
      exact ⟨_, d', hrun, hk, by simpa using hd off d' hd'⟩
  unfold Instr.loadAt
  cases d with
  | rop cs off =>
    cases hr with
    | ro hr =>
      cases hr with
      | @rop b base _ _ g hb hc hd =>
        have := core b base off cs .agg g hc (fun j d h => .ro (hd j d h)) (fun vs ds h1 h2 h3 => .ro (.agg h1 h2 fun j v d hv hdd => by obtain ⟨j', rfl, hj'⟩ := h3 j v d hv hdd; exact hd j' d hj')) h
        simpa [Instr.sureAddr] using this
  | ptr id off =>
    obtain ⟨c, hc, h⟩ := lkoW_ok h
    cases hr with
    | ro hr => cases hr
    | @ptr _ _ b hb =>
      obtain ⟨arr, T, fz, h1, h2, h3, h4, h5, h6⟩ := own_cells hs hc hb
      have := core b 0 off c .oag (fun j => arr.getD j undef) (fun j hj => ⟨by rw [Nat.zero_add]; exact h5 j hj, by obtain ⟨d, hd⟩ : ∃ d, c[j]? = some d := ⟨c[j], by simp [hj]⟩; exact (h6 j d hd).2⟩)
        (fun j d hd => (h6 j d hd).1) (fun vs ds h1 h2 h3 => .oag h1 h2 fun j v d hv hdd => by obtain ⟨j', rfl, hj'⟩ := h3 j v d hv hdd; exact (h6 j' d hj').1) h
      simpa [Instr.sureAddr] using this
  | _ => exact h.elim

/-! ### Writing cells -/
theorem setCells_heap_other (b : Nat) : ∀ (vs : List Value) (o : Nat) (w : World) (k : Nat), k ≠ b → (w.setCells b o vs).heap[k]? = w.heap[k]?
  | [], _, _, _, _ => rfl
  | v :: r, o, w, k, h => by rw [World.setCells, setCells_heap_other b r (o + 1) _ k h]; exact Below.heap_setCell w ⟨b, o, none⟩ v k h
theorem setCells_size (b : Nat) : ∀ (vs : List Value) (o : Nat) (w : World), (w.setCells b o vs).heap.size = w.heap.size
  | [], _, _ => rfl
  | v :: r, o, w => by rw [World.setCells, setCells_size b r]; exact World.size_setCell _ _ _
theorem setCells_os (b : Nat) : ∀ (vs : List Value) (o : Nat) (w : World), (w.setCells b o vs).os = w.os ∧ (w.setCells b o vs).tape = w.tape ∧ (w.setCells b o vs).output = w.output
  | [], _, _ => ⟨rfl, rfl, rfl⟩
  | v :: r, o, w => by rw [World.setCells]; have := setCells_os b r (o + 1) (w.setCell ⟨b, o, none⟩ v); exact this

/-- The array with a stretch of it overwritten. -/
def setArr (arr : Array Value) (o : Nat) : List Value → Array Value
  | [] => arr
  | v :: r => setArr (arr.setIfInBounds o v) (o + 1) r
theorem setArr_size : ∀ (vs : List Value) (o : Nat) (arr : Array Value), (setArr arr o vs).size = arr.size
  | [], _, _ => rfl
  | v :: r, o, arr => by rw [setArr, setArr_size r]; simp
theorem setArr_get : ∀ (vs : List Value) (o : Nat) (arr : Array Value) (j : Nat), o + vs.length ≤ arr.size → (setArr arr o vs)[j]? = if o ≤ j ∧ j < o + vs.length then vs[j - o]? else arr[j]?
  | [], o, arr, j, h => by simp [setArr]; intro h1 h2; omega
  | v :: r, o, arr, j, h => by
    rw [setArr, setArr_get r (o + 1) _ j (by simp at h ⊢; omega)]
    simp only [List.length_cons] at h ⊢
    by_cases h1 : j = o
    · subst h1
      have h2 : ¬ (j + 1 ≤ j ∧ j < j + 1 + r.length) := by omega
      rw [if_neg h2, if_pos (by omega), Array.getElem?_setIfInBounds_self_of_lt (by omega)]
      simp
    · by_cases h2 : o + 1 ≤ j ∧ j < o + 1 + r.length
      · rw [if_pos h2, if_pos (by omega), show j - o = j - (o + 1) + 1 by omega]
        simp
      · rw [if_neg h2, if_neg (by omega), Array.getElem?_setIfInBounds_ne (by omega)]
theorem setCells_heap_same (b : Nat) : ∀ (vs : List Value) (o : Nat) (w : World) (arr : Array Value) (T : TypeId) (fz : Nat × Nat), w.heap[b]? = some (.cells arr T fz) → (w.setCells b o vs).heap[b]? = some (.cells (setArr arr o vs) T fz)
  | [], _, _, _, _, _, h => h
  | v :: r, o, w, arr, T, fz, h => by
    rw [World.setCells, setArr]
    refine setCells_heap_same b r (o + 1) _ _ T fz ?_
    simp only [World.setCell, Array.getElem?_modify, h]
    simp

/-- The list of data with a stretch of it overwritten. -/
def splD (c : List D) (off : Nat) (ds : List D) : List D := c.take off ++ ds ++ c.drop (off + ds.length)
theorem splD_length {c : List D} {off : Nat} {ds : List D} (h : off + ds.length ≤ c.length) : (splD c off ds).length = c.length := by simp [splD]; omega
theorem splD_get {c : List D} {off : Nat} {ds : List D} (h : off + ds.length ≤ c.length) (j : Nat) : (splD c off ds)[j]? = if off ≤ j ∧ j < off + ds.length then ds[j - off]? else c[j]? := by
  unfold splD
  simp only [List.append_assoc, List.getElem?_append, List.length_take, List.getElem?_take, List.getElem?_drop]
  have hm : min off c.length = off := by omega
  rw [hm]
  by_cases h1 : j < off
  · rw [if_pos h1, if_pos h1, if_neg (by omega)]
  · rw [if_neg h1]
    by_cases h2 : j - off < ds.length
    · rw [if_pos h2, if_pos (by omega)]
    · rw [if_neg h2, if_neg (by omega)]
      congr 1
      omega

/-- Cells of an own block are written. -/
theorem SatC.store {P : Program} {w0 : Bas} {w : World} {φ : Loc} {S : St} {tmps : Array Value} (hs : SatC w0 φ S tmps w) {id b off : Nat} {c ds : List D} {vs : List Value} (hid : lk id S.own = some c) (hb : (φ id).1 = some b)
    (hlen : vs.length = ds.length) (hfit : off + ds.length ≤ c.length) (hr : ∀ (i : Nat) (v : Value) (d : D), vs[i]? = some v → ds[i]? = some d → Rep φ w (FSx φ S.own w) v d ∧ v.oneCell' = true) :
    ∃ w', (storeCells ⟨b, off, none⟩ vs).run P w = .ok () w' ∧ SatC w0 φ ⟨S.n, S.nx, S.env, setO id (splD c off ds) S.own⟩ tmps w' ∧ ∀ v d, Rep φ w (FSx φ S.own w) v d → Rep φ w' (FSx φ (setO id (splD c off ds) S.own) w') v d := by
  have h0 := (hs.own id c hid).1
  unfold OwnOk at h0
  rw [hb] at h0
  obtain ⟨arr, T, fz, h1, h2, h3, h4, h5⟩ := h0
  have h1v : ∀ v ∈ vs, v.oneCell' = true := fun v hv => by
    obtain ⟨i, hi, rfl⟩ := List.getElem_of_mem hv
    exact (hr i vs[i] (ds[i]'(by omega)) (by simp [hi]) (by simp)).2
  have hrun := run_storeCells_cells (P := P) b off vs 0 w (fun j hj => by simp only [World.cell?, h1]; simp; omega) (fun j hj => by
      simp only [World.frozen?, h1, Nat.add_zero]
      have := h3 (off + j) (by omega)
      simp only [Bool.and_eq_false_iff, decide_eq_false_iff_not]
      omega) h1v
  simp only [Nat.add_zero] at hrun
  refine ⟨_, hrun, ?_, ?_⟩
  · refine hs.mod (arr := setArr arr off vs) (T := T) (fz := fz) hid hb (setCells_os b vs off w).1 (setCells_os b vs off w).2.1 (setCells_os b vs off w).2.2 (setCells_size b vs off w)
      (fun k hk => setCells_heap_other b vs off w k hk) (setCells_heap_same b vs off w arr T fz h1) (by rw [setArr_size, h2]) (fun o ho => h3 o (by rwa [setArr_size] at ho)) (by rw [splD_length hfit, setArr_size]; exact h4) ?_
    intro i v d hv hd
    rw [setArr_get vs off arr i (by omega)] at hv
    rw [splD_get hfit] at hd
    rw [hlen] at hv
    split at hv
    · rename_i e; rw [if_pos e] at hd; exact hr _ v d hv hd
    · rename_i e; rw [if_neg e] at hd; exact h5 i v d hv hd
  · intro v d h
    refine h.mono (fun k hk => setCells_heap_other b vs off w k fun e => hk.2 id c hid (by rw [hb, e])) (fun k hk => FS_setO hid (by rw [setCells_size]; exact Nat.le_refl _) hk)

#print axioms SatC.store
end Go.Abs
