/-
  AN ABSTRACT WALK, eleventh text: structs, arrays and slices that are written out; make; copy; len, min, max; the rest of the operations without memory.
-/
import Derived.Test.YtdjfnipabekkaaaAbs10
import Derived.Laws.MakeOwn
namespace Go.Abs
open Go.RowKit (Below)

section
variable {P : Program} {w0 : Bas} {w : World} {φ : Loc} {S : St} {tmps : Array Value} {G : Glob}

/-! ### Written out -/
def catW (ds r : List D) (k : List D → Prop) : Prop := k (ds ++ r)
theorem catW_nil (r : List D) (k : List D → Prop) : catW [] r k = k r := _root_.id rfl
theorem catW_cons (d : D) (ds r : List D) (k : List D → Prop) : catW (d :: ds) r k = catW ds r fun r' => k (d :: r') := _root_.id rfl
theorem catW_map {α : Type} (f : α → D) (xs : List α) (r : List D) (k : List D → Prop) : catW (xs.map f) r k = k (xs.map f ++ r) := rfl
def drW (n : Nat) (c : List D) (k : List D → Prop) : Prop := k (c.drop n)
theorem drW_nil (n : Nat) (k : List D → Prop) : drW n [] k = k [] := by simp [drW]
theorem drW_cons (n : Nat) (d : D) (r : List D) (k : List D → Prop) : drW n (d :: r) k = if n = 0 then k (d :: r) else drW (n - 1) r k := by
  unfold drW; cases n <;> simp
def spsW (c : List D) (off sz : Nat) (ds : List D) (k : List D → Prop) : Prop := k (c.take off ++ ds ++ c.drop (off + sz))
theorem spsW_nil (off sz : Nat) (ds : List D) (k : List D → Prop) : spsW [] off sz ds k = k ds := by simp [spsW]
theorem spsW_cons (d : D) (r : List D) (off sz : Nat) (ds : List D) (k : List D → Prop) : spsW (d :: r) off sz ds k = if off = 0 then drW sz (d :: r) (fun r' => catW ds r' k) else spsW r (off - 1) sz ds fun r' => k (d :: r') := by
  unfold spsW drW catW
  cases off with
  | zero => simp
  | succ n => simp [show n + 1 + sz = n + sz + 1 by omega]

def bldW (G : Glob) (S : St) (offs : Nat → (Nat → Nat → Prop) → Prop) : List (Nat × Operand) → List D → (List D → Prop) → Prop
  | [], c, k => k c
  | (i, x) :: r, c, k => offs i fun off sz => evW G S x fun d => clW d fun ds => ds.length = sz ∧ off + sz ≤ c.length ∧ spsW c off sz ds fun c' => bldW G S offs r c' k

theorem foldl_setArr (vs : Array Value) (off : Nat) (cells : Array Value) : vs.zipIdx.foldl (fun cs (c, j) => cs.setIfInBounds (off + j) c) cells = setArr cells off vs.toList := by
  have key : ∀ (l : List Value) (o : Nat) (cs : Array Value), (l.zipIdx o).foldl (fun (cs : Array Value) (p : Value × Nat) => cs.setIfInBounds (off + p.2) p.1) cs = setArr cs (off + o) l := by
    intro l
    induction l with
    | nil => intro o cs; rfl
    | cons v l ih => intro o cs; rw [List.zipIdx_cons, List.foldl_cons, setArr, ih]; rfl
  rw [← Array.foldl_toList, Array.toList_zipIdx]
  exact key vs.toList 0 cells

theorem bldW_ok (hG : GOk G w0) {a : Act} (hs : SatC w0 φ S a.tmps w) {offs : Nat → (Nat → Nat → Prop) → Prop} {place : Nat → Option (Nat × Nat)} (hoff : ∀ i k, offs i k → ∃ o s, place i = some (o, s) ∧ k o s) :
    ∀ {parts : List (Nat × Operand)} {c : List D} {arr : Array Value} {k : List D → Prop}, arr.size = c.length → (∀ (i : Nat) (v : Value) (d : D), arr[i]? = some v → c[i]? = some d → Rep φ w (FSx φ S.own w) v d ∧ v.oneCell' = true) → bldW G S offs parts c k →
      ∃ arr' c', Instr.fill place arr (parts.map fun p => (p.1, a.eval p.2)) = some arr' ∧ k c' ∧ arr'.size = c'.length ∧ arr'.size = arr.size ∧ ∀ (i : Nat) (v : Value) (d : D), arr'[i]? = some v → c'[i]? = some d → Rep φ w (FSx φ S.own w) v d ∧ v.oneCell' = true
  | [], c, arr, k, hsz, hr, h => ⟨arr, c, rfl, h, hsz, rfl, hr⟩
  | (i, x) :: r, c, arr, k, hsz, hr, h => by
    obtain ⟨o, s, hp, h⟩ := hoff i _ h
    obtain ⟨d, h, hd⟩ := evW_ok hG hs h
    obtain ⟨ds, ⟨hl, hfit, h⟩, hvl, hvr⟩ := clW_ok hd h
    have hset : (setArr arr o (a.eval x).cells.toList).size = arr.size := setArr_size _ _ _
    have hspl : c.take o ++ ds ++ c.drop (o + s) = splD c o ds := by rw [splD, hl]
    have hlen : (splD c o ds).length = c.length := splD_length (by omega)
    have h' : bldW G S offs r (splD c o ds) k := by rw [← hspl]; exact h
    obtain ⟨arr', c', hf, hk, h1, h2, h3⟩ := bldW_ok hG hs hoff (parts := r) (arr := setArr arr o (a.eval x).cells.toList) (by rw [hset, hlen, hsz]) (fun j v e hv he => by
      rw [setArr_get _ _ _ _ (by simp [hvl]; omega)] at hv
      rw [splD_get (by omega)] at he
      simp only [Array.length_toList, hvl] at hv
      split at hv
      · rename_i hj
        rw [if_pos hj] at he
        exact hvr _ v e (by simpa using hv) he
      · rename_i hj
        rw [if_neg hj] at he
        exact hr j v e hv he) h'
    refine ⟨arr', c', ?_, hk, h1, by rw [h2, hset], h3⟩
    have e1 : ¬ ((a.eval x).cells.size ≠ s || o + (a.eval x).cells.size > arr.size) = true := by simp; omega
    simp only [List.map_cons, Instr.fill, hp]
    rw [if_neg e1, foldl_setArr]
    exact hf

/-- A struct. -/
theorem buildS_ok (hG : GOk G w0) {a : Act} (hs : SatC w0 φ S a.tmps w) {T : TypeId} {fs : List (Nat × TypeId)} (ht : tyOf P T = .struct fs) {parts : Array (Nat × Operand)} {k : D → Prop}
    (hfs : ∀ (i o ft : Nat), fs[i]? = some (o, ft) → ∃ inf, P.info? ft = some inf) (hall : ∀ p ∈ fs, ∃ inf, P.info? p.2 = some inf)
    (h : zeroW P T fun z => bldW G S (fun i k => fldW P T i fun o ft => szW P ft fun n => k o n) parts.toList z fun c => k (.oag c)) :
    ∃ v d, (Instr.build T (parts.map fun (i, x) => (i, a.eval x))).run P w = .ok v w ∧ k d ∧ Rep φ w (FSx φ S.own w) v d := by
  obtain ⟨i, z, hi, hz, h1, h⟩ := zeroW_ok h
  obtain ⟨fa, hfa, hfs'⟩ := tyOf_struct ht
  have hplaces : (fa.mapM fun f => do pure (f.offset, ← sizeOf f.type) : Sem (Array (Nat × Nat))).run P w = .ok (fa.map fun f => (f.offset, P.cellsOf f.type)) w := by
    have key : ∀ (l : List Field), (∀ f ∈ l, ∃ inf, P.info? f.type = some inf) → (l.mapM fun f => do pure (f.offset, ← sizeOf f.type) : Sem (List (Nat × Nat))).run P w = .ok (l.map fun f => (f.offset, P.cellsOf f.type)) w := by
      intro l
      induction l with
      | nil => intro _; simp
      | cons f l ih =>
        intro hl
        obtain ⟨inf, hinf⟩ := hl f (by simp)
        have ih := ih (fun g hg => hl g (by simp [hg]))
        have hf : (do pure (f.offset, ← sizeOf f.type) : Sem (Nat × Nat)).run P w = .ok (f.offset, P.cellsOf f.type) w := by simp [sizeOf, typeInfo, Program.cellsOf, hinf]
        rw [List.mapM_cons, Sem.run_bind, hf, Result.andThen_ok, Sem.run_bind, ih]
        rfl
    rw [Array.mapM_eq_mapM_toList]
    simp only [Sem.run_map]
    rw [key fa.toList (fun f hf => by
      have : (f.offset, f.type) ∈ fs := by rw [hfs']; exact List.mem_map.2 ⟨f, hf, rfl⟩
      exact hall _ this)]
    simp only [Result.andThen_ok]
    exact congrArg (fun x => Result.ok x w) (Array.ext' (by simp))
  obtain ⟨arr', c', hf, hk, hsz, _, hr⟩ := bldW_ok (arr := z.cells) (place := fun j => (fa.map fun f => (f.offset, P.cellsOf f.type))[j]?) hG hs (fun i k h => by
    obtain ⟨fa', x, q1, q2, h⟩ := fldW_ok h
    obtain ⟨inf, q3, h⟩ := szW_ok h
    rw [hfa] at q1; cases q1
    exact ⟨_, _, by simp [q2, Program.cellsOf, q3], h⟩) (by simp) (fun j v d hv hd => by
      simp only [List.getElem?_map, Array.getElem?_toList, hv, Option.map_some, Option.some.injEq] at hd
      subst hd
      have := Array.all_eq_true.1 h1
      obtain ⟨hj, rfl⟩ := Array.getElem?_eq_some_iff.1 hv
      exact ⟨.ro (dS_ok w _ _), this j hj⟩) h
  refine ⟨.agg arr', .oag c', ?_, hk, .oag hsz (fun j v hv => ?_) fun j v d hv hd => (hr j v d hv hd).1⟩
  · have e : (parts.map fun (i, x) => (i, a.eval x)).toList = parts.toList.map fun p => (p.1, a.eval p.2) := by simp
    simp only [Instr.build, Sem.run_bind, zeroValue, typeInfo, run_program, Result.andThen_ok, hi, hz, Sem.run_pure, run_underlying hfa]
    simp only [sizeOf, typeInfo] at hplaces
    simp only [sizeOf, typeInfo, hplaces, Result.andThen_ok, e, hf, Sem.run_pure]
  · obtain ⟨hj, rfl⟩ := Array.getElem?_eq_some_iff.1 hv
    exact (hr j _ (c'[j]'(by omega)) (by simp [hj]) (by simp)).2

/-- An array. -/
theorem buildA_ok (hG : GOk G w0) {a : Act} (hs : SatC w0 φ S a.tmps w) {T e : TypeId} {n : Nat} (ht : tyOf P T = .arr n e) {parts : Array (Nat × Operand)} {k : D → Prop}
    (h : zeroW P T fun z => szW P e fun sz => bldW G S (fun i k => k (i * sz) sz) parts.toList z fun c => k (.oag c)) :
    ∃ v d, (Instr.build T (parts.map fun (i, x) => (i, a.eval x))).run P w = .ok v w ∧ k d ∧ Rep φ w (FSx φ S.own w) v d := by
  obtain ⟨i, z, hi, hz, h1, h⟩ := zeroW_ok h
  obtain ⟨ie, hie, h⟩ := szW_ok h
  obtain ⟨arr', c', hf, hk, hsz, _, hr⟩ := bldW_ok (arr := z.cells) (place := fun j => some (j * ie.size, ie.size)) hG hs (fun i k h => ⟨_, _, rfl, h⟩) (by simp) (fun j v d hv hd => by
      simp only [List.getElem?_map, Array.getElem?_toList, hv, Option.map_some, Option.some.injEq] at hd
      subst hd
      have := Array.all_eq_true.1 h1
      obtain ⟨hj, rfl⟩ := Array.getElem?_eq_some_iff.1 hv
      exact ⟨.ro (dS_ok w _ _), this j hj⟩) h
  refine ⟨.agg arr', .oag c', ?_, hk, .oag hsz (fun j v hv => ?_) fun j v d hv hd => (hr j v d hv hd).1⟩
  · have e : (parts.map fun (i, x) => (i, a.eval x)).toList = parts.toList.map fun p => (p.1, a.eval p.2) := by simp
    simp only [Instr.build, Sem.run_bind, zeroValue, sizeOf, typeInfo, run_program, Result.andThen_ok, hi, hz, hie, Sem.run_pure, run_underlying (tyOf_arr ht), e, hf]
  · obtain ⟨hj, rfl⟩ := Array.getElem?_eq_some_iff.1 hv
    exact (hr j _ (c'[j]'(by omega)) (by simp [hj]) (by simp)).2

/-- A slice: in new memory, which from then on is only read. -/
theorem new_ro (hs : SatC w0 φ S tmps w) {arr : Array Value} {T : TypeId} {cs : List D} {n sz : Nat} (hsz : arr.size = n * sz) (hl : cs.length = n * sz) (hm : n ≤ maxLen) (hr : ∀ (i : Nat) (v : Value) (d : D), arr[i]? = some v → cs[i]? = some d → RepR w (FSx φ S.own w) v d ∧ v.oneCell' = true) :
    SatC w0 φ S tmps (w.alloc (.cells arr T)) ∧ RepR (w.alloc (.cells arr T)) (FSx φ S.own (w.alloc (.cells arr T))) (.slice (some ⟨w.heap.size, 0, none⟩) n n) (.slx sz n cs) := by
  have hb : Below w.heap.size w (w.alloc (.cells arr T)) := (Below.refl _ _).alloc (Nat.le_refl _) _
  have hblk : (w.alloc (.cells arr T)).heap[w.heap.size]? = some (.cells arr T) := heap_alloc_new w _
  refine ⟨hs.ext hb, .slx (fun j => arr.getD j undef) rfl ⟨by simp, fun id c hc hb => absurd ((hs.own id c hc).1.lt hb) (Nat.lt_irrefl _), hs.newBase⟩ hm hl (fun j hj => ?_) (fun j d hd => ?_)⟩
  · have h1 : arr[j]? = some (arr[j]'(by omega)) := by simp
    obtain ⟨d, hd⟩ : ∃ d, cs[j]? = some d := ⟨cs[j]'(by omega), by simp⟩
    simp only [World.cell?, hblk, Nat.zero_add, Option.isSome_none, Bool.false_eq_true, if_false, h1, Array.getD_eq_getD_getElem?, Option.getD_some, true_and]
    exact (hr j _ d h1 hd).2
  · have hj : j < arr.size := by have := (List.getElem?_eq_some_iff.1 hd).1; omega
    have h1 : arr[j]? = some arr[j] := by simp [hj]
    rw [Array.getD_eq_getD_getElem?, h1, Option.getD_some]
    exact (hr j _ d h1 hd).1.mono (fun k hk => hb.block k hk.1) fun k hk => FSx.ext hb hk

/-- 'n' times the cells of an element. -/
def repW (n : Nat) (z : List D) (k : List D → Prop) : Prop := k (List.replicate n z).flatten
theorem repW_one (n : Nat) (d : D) (k : List D → Prop) : repW n [d] k = k (List.replicate n d) := by
  unfold repW
  congr 1
  induction n with
  | zero => rfl
  | succ n ih => simp [List.replicate_succ, ih]

theorem zeros_get {z : Array Value} {n j : Nat} {v : Value} {d : D} (hv : ((Array.range (n * z.size)).map fun i => z[i % z.size]!)[j]? = some v) (hd : (List.replicate n (z.toList.map dS)).flatten[j]? = some d) : ∃ i : Nat, z[i]? = some v ∧ d = dS v := by
  have hj : j < n * z.size := by
    have := (Array.getElem?_eq_some_iff.1 hv).1
    simpa using this
  have hz : 0 < z.size := by
    rcases Nat.eq_zero_or_pos z.size with h | h
    · rw [h] at hj; omega
    · exact h
  have hmod : j % z.size < z.size := Nat.mod_lt _ hz
  have e1 : v = z[j % z.size] := by
    simp only [Array.getElem?_map, Array.getElem?_range, hj, if_true, Option.map_some, Option.some.injEq] at hv
    rw [← hv, getElem!_pos z _ hmod]
  have key : ∀ (l : List D) (m i : Nat), i < m * l.length → (List.replicate m l).flatten[i]? = l[i % l.length]? := by
    intro l m
    induction m with
    | zero => intro i hi; omega
    | succ m ih =>
      intro i hi
      rw [List.replicate_succ, List.flatten_cons, List.getElem?_append]
      split
      · rename_i h; rw [Nat.mod_eq_of_lt h]
      · rename_i h
        rw [ih (i - l.length) (by rw [Nat.add_mul] at hi; omega), Nat.mod_eq_sub_mod (Nat.le_of_not_lt h)]
  rw [key _ n j (by simpa using hj)] at hd
  simp only [List.length_map, Array.length_toList, List.getElem?_map, Array.getElem?_toList] at hd
  refine ⟨j % z.size, by rw [e1]; simp [hmod], ?_⟩
  rw [show z[j % z.size]? = some z[j % z.size] by simp [hmod]] at hd
  simp only [Option.map_some, Option.some.injEq] at hd
  rw [← hd, e1]

theorem buildSl_ok (hG : GOk G w0) {a : Act} (hs : SatC w0 φ S a.tmps w) {T e : TypeId} {n : Nat} (ht : tyOf P T = .slice e) {parts : Array (Nat × Operand)} {k : D → St → Prop}
    (h : szW P e fun sz => n * sz ≤ 16777216 ∧ n ≤ maxLen ∧ zeroW P e fun z => z.length = sz ∧ repW n z fun c0 => bldW G S (fun i k => k (i * sz) sz) parts.toList c0 fun c => allP c ∧ k (.slx sz n c) S) :
    ∃ v w', (Instr.buildSlice T n (parts.map fun (i, x) => (i, a.eval x))).run P w = .ok v w' ∧ Left w0 S a.tmps k v w' := by
  obtain ⟨ie, hie, hsz, hm, h⟩ := szW_ok h
  obtain ⟨i', z, hi', hz, h1, hzl, h⟩ := zeroW_ok h
  rw [hie] at hi'; cases hi'
  have hzl : z.cells.size = ie.size := by simpa using hzl
  have hrange : ∀ (zz : Array Value), ((n * ie.size = 0 → zz = #[]) ∧ (n * ie.size ≠ 0 → zz = z.cells)) → ((Array.range (n * ie.size)).map fun i => zz[i % zz.size]!) = ((Array.range (n * z.cells.size)).map fun i => z.cells[i % z.cells.size]!) := by
    intro zz hzz
    by_cases h0 : n * ie.size = 0
    · rw [hzl, h0]; simp
    · rw [hzz.2 h0, hzl]
  obtain ⟨arr', c', hf, ⟨hp, hk⟩, hsz1, hsz2, hr⟩ := bldW_ok (arr := (Array.range (n * z.cells.size)).map fun i => z.cells[i % z.cells.size]!) (place := fun j => some (j * ie.size, ie.size)) hG hs (fun i k h => ⟨_, _, rfl, h⟩)
    (by simp) (fun j v d hv hd => by
      obtain ⟨q, hq, rfl⟩ := zeros_get hv hd
      have := Array.all_eq_true.1 h1
      obtain ⟨hj, rfl⟩ := Array.getElem?_eq_some_iff.1 hq
      exact ⟨.ro (dS_ok w _ _), this q hj⟩) h
  have hlen : arr'.size = n * ie.size := by rw [hsz2]; simp [hzl]
  obtain ⟨hs', hrep⟩ := new_ro hs (arr := arr') (T := e) (cs := c') hlen (by omega) hm (fun j v d hv hd => ⟨(hr j v d hv hd).1.pure (hp d (List.mem_of_getElem? hd)), (hr j v d hv hd).2⟩)
  refine ⟨.slice (some ⟨w.heap.size, 0, none⟩) n n, w.alloc (.cells arr' e), ?_, φ, _, S, hk, hs', .ro hrep, rfl⟩
  have e1 : (parts.map fun (i, x) => (i, a.eval x)).toList = parts.toList.map fun p => (p.1, a.eval p.2) := by simp
  have hns : ¬ (n * ie.size > 2 ^ 24) := by omega
  simp only [Instr.buildSlice, Sem.run_bind, run_underlying (tyOf_slice ht), Result.andThen_ok, sizeOf, typeInfo, run_program, hie, Sem.run_pure, if_neg hns, e1]
  by_cases h0 : n * ie.size = 0
  · have hr0 := hrange #[] ⟨fun _ => rfl, fun h => absurd h0 h⟩
    rw [if_pos h0]
    simp only [pure_bind]
    rw [hr0, hf]
    simp [newRow]
  · have hr0 := hrange z.cells ⟨fun h => absurd h h0, fun _ => rfl⟩
    rw [if_neg h0]
    simp only [Sem.run_bind, zeroValue, typeInfo, run_program, Result.andThen_ok, hie, hz, Sem.run_pure]
    rw [hr0, hf]
    simp [newRow]

/-- make. -/
theorem makeW_ok (hs : SatC w0 φ S tmps w) {T e : TypeId} (ht : tyOf P T = .slice e) {k1 k2 : IntKind} {n c : Int} {k : D → St → Prop}
    (h : c = n ∧ 0 ≤ n ∧ szW P e fun sz => byW P e fun by_ => roomW n.toNat by_ (zeroW P e fun z => z.length = sz ∧ repW n.toNat z fun c0 => newW S c0 fun S' => k (.osl S.nx sz n.toNat) S')) :
    ∃ v w', (Instr.makeSlice T (.int k1 n) (.int k2 c)).run P w = .ok v w' ∧ Left w0 S tmps k v w' := by
  obtain ⟨rfl, h0, h⟩ := h
  obtain ⟨ie, hie, h⟩ := szW_ok h
  obtain ⟨ib, hib, h⟩ := byW_ok h
  rw [hie] at hib; cases hib
  obtain ⟨hby, hmx, h⟩ := h
  obtain ⟨i', z, hi', hz, h1, hzl, h⟩ := zeroW_ok h
  rw [hie] at hi'; cases hi'
  have hzl : z.cells.size = ie.size := by simpa using hzl
  obtain ⟨m, rfl⟩ := Int.eq_ofNat_of_zero_le h0
  simp only [Int.ofNat_eq_natCast, Int.toNat_natCast] at *
  have hb' : (ie.bytes : Int) * (m : Int) ≤ 281474976710656 := by
    have h : ((ie.bytes * m : Nat) : Int) ≤ 281474976710656 := by rw [Nat.mul_comm]; omega
    rwa [Int.natCast_mul] at h
  have hrun := run_make (P := P) w T e ie z (tyOf_slice ht) hie hz k1 k2 m m (by omega) (Int.le_refl _) hb' (by simp [maxLen] at hmx; omega)
  simp only [Int.toNat_natCast] at hrun
  have hcells : madeCells z.cells (m * ie.size) = (Array.range (m * z.cells.size)).map fun i => z.cells[i % z.cells.size]! := by rw [← hzl]; rfl
  obtain ⟨φ', S', hk, hs', hn, hlo⟩ := newW_ok hs (arr := madeCells z.cells (m * ie.size)) (T := e) (fz := (0, 0)) (fun o _ => by simp) (by rw [hcells]; simp) (fun j v d hv hd => by
    rw [hcells] at hv
    obtain ⟨q, hq, rfl⟩ := zeros_get hv hd
    have := Array.all_eq_true.1 h1
    obtain ⟨hj, rfl⟩ := Array.getElem?_eq_some_iff.1 hq
    exact ⟨.ro (dS_ok w _ _), this q hj, mn_of_repR (dS_ok w (FSx φ S.own w) _) _⟩) h
  refine ⟨_, _, hrun, φ', _, S', hk, hs', ?_, hn⟩
  refine Rep.osl (by rw [hlo]) ?_ (Nat.le_refl _) hmx
  rw [hlo, hcells]; simp [hzl]
end

#print axioms bldW_ok
#print axioms buildSl_ok
end Go.Abs
