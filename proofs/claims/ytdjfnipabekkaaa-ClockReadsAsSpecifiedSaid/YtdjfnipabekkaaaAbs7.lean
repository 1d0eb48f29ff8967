/-
  AN ABSTRACT WALK, seventh text: append onto a slice of the call's own, onto a full one; copy; bytes of a string and back; make.
-/
import Derived.Test.YtdjfnipabekkaaaAbs6
namespace Go.Abs
open Go.RowKit (Below)

section
variable {P : Program} {w0 : Bas} {w : World} {φ : Loc} {S : St} {tmps : Array Value} {sT xT ty e : TypeId} {i : TypeInfo} {z : Value} {u : TypeDesc} {x : Value} {m : Nat} {es : List D} {vs : List Value}

theorem app_own (hs : SatC w0 φ S tmps w) (T : AppTy P sT xT e i z u) (src : Src P w (FSx φ S.own w) i.size x m es vs) {sv : Value} {id n : Nat} (hsv : Rep φ w (FSx φ S.own w) sv (.osl id i.size n)) {k : D → St → Prop} {c : List D}
    (hid : lk id S.own = some c) (hl : c.length = n * i.size) (hby : (n + m) * i.bytes ≤ 140737488355328) (h63 : n + m ≤ maxLen) (hlt : id < pinB) (hnm : ∀ j c, lk j S.own = some c → ∀ d ∈ c, mn id d = false)
    (hk : k (.osl id i.size (n + m)) ⟨S.n, S.nx, Abs.purge id S.env, setO id (c ++ es) S.own⟩) :
    ∃ v w', (Builtin.append_ #[sT, xT] ty #[sv, x]).run P w = .ok v w' ∧ Left w0 S tmps k v w' := by
  have hve : vs.length = es.length := by rw [src.lv, src.lc]
  cases hsv with
  | ro h => cases h
  | @osl0 _ _ p hb =>
    have h0 : c = [] := List.eq_nil_of_length_eq_zero (by simpa using hl)
    subst h0
    by_cases hm : m = 0
    · subst hm
      have h0 : vs = [] := List.eq_nil_of_length_eq_zero (by rw [src.lv]; simp)
      have h1 : es = [] := List.eq_nil_of_length_eq_zero (by rw [src.lc]; simp)
      subst h0; subst h1
      have hv := src.cells 0 (Nat.le_refl _) w (fun _ _ => rfl)
      simp only [List.take_nil] at hv
      refine ⟨_, _, run_append_fits T.ht T.hi T.hx T.hu src.len hv (by omega) (w' := w) (fun a _ => rfl) (fun _ => rfl), φ, _, _, hk, ?_, .osl0 hb, rfl⟩
      exact SatC.congr_own (hs.purge id) (lk_setO_eq hid)
    · have hv := src.cells m (Nat.le_refl _) w.drew (fun _ _ => rfl)
      rw [List.take_of_length_le (by rw [src.lv]; exact Nat.le_refl _)] at hv
      have ho := (src_empty (P := P) (w := w) (F := FSx φ S.own w) p i.size 0).cells 0 (Nat.le_refl _) w.drew (fun _ _ => rfl)
      simp only [List.take_nil] at ho
      have hrun := run_append_grows (ty := ty) (p := p) (c := 0) T.ht T.hi T.hz T.hx T.hu src.len hv ho (by omega) hby h63
      have hge : 0 + m ≤ grownCap w (0 + m) 0 e := grownCap_ge w _ _ _
      have hle : grownCap w (0 + m) 0 e ≤ maxLen := grownCap_le_maxLen w _ _ _ h63
      have hsz := row_size (os := []) (n := 0) (by simp) src.lv T.hzs (cap := grownCap w (0 + m) 0 e) hge
      refine ⟨_, _, hrun, _, _, _, hk, hs.drew.regrow (cs := [] ++ es) _ e hid ?_ (fun j v d hv hd => ?_) ⟨hlt, fun j c hc _ => hnm j c hc⟩, ?_, rfl⟩
      · rw [hsz, List.nil_append, src.lc]; exact Nat.mul_le_mul_right _ (by omega)
      · rcases row_get (c := []) rfl hve hv hd with ⟨a, b⟩ | ⟨a, b⟩
        · simp at a
        · exact ⟨(Rep.ro (src.rep _ v d a b).1).of_drew, (src.rep _ v d a b).2, mn_of_repR (src.rep _ v d a b).1 _⟩
      · refine Rep.osl (by rw [upd_same]; rfl) ?_ hge hle
        rw [upd_same]
        exact hsz.symm
  | @osl _ _ _ cap b hb he hn hmx =>
    obtain ⟨arr, Tb, fz, h1, h2, h3, h4, h5, h6⟩ := own_cells hs hid hb
    have h0 := (hs.own id c hid).1
    by_cases hroom : n + m ≤ cap
    · have hv := src.cells m (Nat.le_refl _) w (fun _ _ => rfl)
      rw [List.take_of_length_le (by rw [src.lv]; exact Nat.le_refl _)] at hv
      have hfit : n * i.size + vs.length ≤ arr.size := by rw [src.lv, h2, ← he, ← Nat.add_mul]; exact Nat.mul_le_mul_right _ hroom
      have h1v : ∀ v ∈ vs, v.oneCell' = true := fun v hv => by
        obtain ⟨j, hj, rfl⟩ := List.getElem_of_mem hv
        exact (src.rep j vs[j] (es[j]'(by omega)) (by simp [hj]) (by simp)).2
      have hst := run_storeCells_cells (P := P) b (n * i.size) vs 0 w (fun j hj => by simp only [World.cell?, h1]; simp; omega) (fun j hj => by
        simp only [World.frozen?, h1, Nat.add_zero]
        have := h4 (n * i.size + j) (by omega)
        simp only [Bool.and_eq_false_iff, decide_eq_false_iff_not]
        omega) h1v
      simp only [Nat.add_zero] at hst
      refine ⟨_, _, run_append_fits T.ht T.hi T.hx T.hu src.len hv hroom (w' := w.setCells b (n * i.size) vs) (fun a ha => by cases ha; rw [addr_add, Nat.zero_add]; exact hst) (fun h => by cases h), φ, _, _, hk, ?_, .osl hb he hroom hmx, rfl⟩
      have hm := hs.mod (cs := c ++ es) (arr := setArr arr (n * i.size) vs) (T := Tb) (fz := fz) hid hb (setCells_os b vs _ w).1 (setCells_os b vs _ w).2.1 (setCells_os b vs _ w).2.2 (setCells_size b vs _ w)
        (fun k hk => setCells_heap_other b vs _ w k hk) (setCells_heap_same b vs _ w arr Tb fz h1) (by rw [setArr_size, h2]) (fun o ho => h4 o (by rwa [setArr_size] at ho)) (by rw [setArr_size]; simp; omega) ?_
      · exact hm.purge id
      · intro j v d hv hd
        rw [setArr_get vs _ arr j hfit] at hv
        rw [List.getElem?_append] at hd
        by_cases hj : j < c.length
        · rw [if_pos hj] at hd
          rw [if_neg (by omega)] at hv
          have := h6 j d hd
          rw [Array.getD_eq_getD_getElem?, hv, Option.getD_some] at this
          exact this
        · rw [if_neg hj] at hd
          have : j - c.length < es.length := (List.getElem?_eq_some_iff.1 hd).1
          rw [if_pos (by omega)] at hv
          rw [hl] at hd
          exact ⟨.ro (src.rep _ v d hv hd).1, (src.rep _ v d hv hd).2⟩
    · have hv := src.cells m (Nat.le_refl _) w.drew (fun _ _ => rfl)
      rw [List.take_of_length_le (by rw [src.lv]; exact Nat.le_refl _)] at hv
      have ho : (Builtin.firstCells i.size n (.slice (some ⟨b, 0, none⟩) n cap)).run P w.drew = .ok ((List.range (n * i.size)).map fun j => arr.getD j undef).toArray w.drew := by
        have := run_loadCells (P := P) w.drew ⟨b, 0, none⟩ (n * i.size) (fun j => arr.getD j undef) (fun j hj => by rw [addr_add, Nat.zero_add]; exact h5 j (by omega))
        simp only [Builtin.firstCells, this]
      have hrun := run_append_grows (ty := ty) (p := some ⟨b, 0, none⟩) (c := cap) T.ht T.hi T.hz T.hx T.hu src.len hv ho (by omega) hby h63
      have hge : n + m ≤ grownCap w (n + m) cap e := grownCap_ge w _ _ _
      have hle : grownCap w (n + m) cap e ≤ maxLen := grownCap_le_maxLen w _ _ _ h63
      have hsz := row_size (os := (List.range (n * i.size)).map fun j => arr.getD j undef) (by simp) src.lv T.hzs hge
      refine ⟨_, _, hrun, _, _, _, hk, hs.drew.regrow (cs := c ++ es) _ e hid ?_ (fun j v d hv hd => ?_) ⟨hlt, fun j c hc _ => hnm j c hc⟩, ?_, rfl⟩
      · rw [hsz, List.length_append, src.lc, hl, ← Nat.add_mul]; exact Nat.mul_le_mul_right _ hge
      · rcases row_get (by simp [hl]) hve hv hd with ⟨a, b'⟩ | ⟨a, b'⟩
        · have hj : j < n * i.size := by have := (List.getElem?_eq_some_iff.1 a).1; simpa using this
          simp only [List.getElem?_map, hj, List.getElem?_range, Option.map_some, Option.some.injEq] at a
          subst a
          exact ⟨(h6 j d b').1.of_drew, (h6 j d b').2, hnm id c hid d (List.mem_of_getElem? b')⟩
        · exact ⟨(Rep.ro (src.rep _ v d a b').1).of_drew, (src.rep _ v d a b').2, mn_of_repR (src.rep _ v d a b').1 _⟩
      · refine Rep.osl (by rw [upd_same]; rfl) ?_ hge hle
        rw [upd_same]
        exact hsz.symm

/-- .. onto a slice without room behind it. -/
theorem app_full (hs : SatC w0 φ S tmps w) (T : AppTy P sT xT e i z u) (src : Src P w (FSx φ S.own w) i.size x m es vs) {sv : Value} {n : Nat} {cs : List D} (hsv : Rep φ w (FSx φ S.own w) sv (.slx i.size n cs)) {k : D → St → Prop}
    (h : roomW (n + m) i.bytes ((n = 0 ∧ newW S es fun S' => k (.osl S.nx i.size m) S') ∨ (0 < m ∧ newW S (cs ++ es) fun S' => k (.osl S.nx i.size (n + m)) S') ∨ k (.sl i.size (n + m) (cs ++ es)) S)) :
    ∃ v w', (Builtin.append_ #[sT, xT] ty #[sv, x]).run P w = .ok v w' ∧ Left w0 S tmps k v w' := by
  have hve : vs.length = es.length := by rw [src.lv, src.lc]
  have hshape : ∃ p, sv = .slice p n n := by
    cases hsv with | ro h => cases h with
    | slx0 => exact ⟨_, rfl⟩
    | slx => exact ⟨_, rfl⟩
  obtain ⟨p, rfl⟩ := hshape
  obtain ⟨hby, h63, h⟩ := h
  rcases h with ⟨rfl, h⟩ | h
  · exact app_empty hs T src (p := p) ⟨by simpa using hby, by simpa using h63, h⟩
  obtain ⟨os, so⟩ : ∃ os, Src P w (FSx φ S.own w) i.size (.slice p n n) n cs os := by
    obtain ⟨n', cs', os, ⟨e1, e2⟩, so⟩ := srcW_ok (P := P) (k := fun a b => a = n ∧ b = cs) hs hsv (show srcW S i.size (.slx i.size n cs) _ from ⟨rfl, rfl, rfl⟩)
    subst e1; subst e2; exact ⟨os, so⟩
  have hoc : os.length = cs.length := by rw [so.lv, so.lc]
  by_cases hm : m = 0
  · subst hm
    have h0 : vs = [] := List.eq_nil_of_length_eq_zero (by rw [src.lv]; simp)
    have h1 : es = [] := List.eq_nil_of_length_eq_zero (by rw [src.lc]; simp)
    subst h0; subst h1
    rcases h with ⟨h, _⟩ | hk
    · omega
    have hv := src.cells 0 (Nat.le_refl _) w (fun _ _ => rfl)
    simp only [List.take_nil] at hv
    refine ⟨_, _, run_append_fits T.ht T.hi T.hx T.hu src.len hv (by omega) (w' := w) (fun a _ => rfl) (fun _ => rfl), φ, _, _, hk, hs, ?_, rfl⟩
    rw [Nat.add_zero, List.append_nil]
    cases hsv with | ro h => cases h with
    | slx0 => exact .ro (.sl0 (by simp [maxLen]))
    | slx g a b c d e f => exact .ro (.sl g a b (Nat.le_refl _) c d e f)
  · have hv := src.cells m (Nat.le_refl _) w.drew (fun _ _ => rfl)
    rw [List.take_of_length_le (by rw [src.lv]; exact Nat.le_refl _)] at hv
    have ho := so.cells n (Nat.le_refl _) w.drew (fun _ _ => rfl)
    rw [List.take_of_length_le (by rw [so.lv]; exact Nat.le_refl _)] at ho
    have hrun := run_append_grows (ty := ty) (p := p) (c := n) T.ht T.hi T.hz T.hx T.hu src.len hv ho (by omega) hby h63
    have hge : n + m ≤ grownCap w (n + m) n e := grownCap_ge w _ _ _
    have hle : grownCap w (n + m) n e ≤ maxLen := grownCap_le_maxLen w _ _ _ h63
    have hsz := row_size so.lv src.lv T.hzs hge
    rcases h with ⟨_, h⟩ | hk
    · obtain ⟨hnm, hk⟩ := nmW_ok h
      refine ⟨_, _, hrun, _, _, _, hk, hs.newDrew rfl hoc hve so.rep src.rep hnm, ?_, rfl⟩
      refine Rep.osl (by rw [upd_same]) ?_ hge hle
      rw [upd_same]
      exact hsz.symm
    · refine ⟨_, _, hrun, φ, _, _, hk, hs.ext ((Below.refl _ _).drew.alloc (Nat.le_refl _) _), ?_, rfl⟩
      have hlt : ∀ j, j < (n + m) * i.size → j < cs.length + es.length := fun j hj => by rw [so.lc, src.lc, ← Nat.add_mul]; exact hj
      have hbelow : Below w.heap.size w (w.drew.alloc (.cells (os.toArray ++ vs.toArray ++ Builtin.zeroCells z.cells (grownCap w (n + m) n e - (n + m))) e)) := (Below.refl _ _).drew.alloc (Nat.le_refl _) _
      have hcell : ∀ j, j < (n + m) * i.size → ∃ v, (os.toArray ++ vs.toArray ++ Builtin.zeroCells z.cells (grownCap w (n + m) n e - (n + m)))[j]? = some v := fun j hj => by
        have : j < (os.toArray ++ vs.toArray ++ Builtin.zeroCells z.cells (grownCap w (n + m) n e - (n + m))).size := by rw [hsz]; exact Nat.lt_of_lt_of_le hj (Nat.mul_le_mul_right _ hge)
        exact ⟨_, Array.getElem?_eq_getElem this⟩
      refine .ro (.sl (fun j => (os.toArray ++ vs.toArray ++ Builtin.zeroCells z.cells (grownCap w (n + m) n e - (n + m))).getD j undef) rfl ?_ hge hle (by rw [List.length_append, so.lc, src.lc, ← Nat.add_mul]) (fun j hj => ?_) (fun j d hd => ?_))
      · exact ⟨by simp, fun id c hc hb => absurd ((hs.own id c hc).1.lt hb) (Nat.lt_irrefl _), hs.newBase⟩
      · obtain ⟨v, hv⟩ := hcell j hj
        refine ⟨?_, ?_⟩
        · have : (w.drew.alloc (.cells (os.toArray ++ vs.toArray ++ Builtin.zeroCells z.cells (grownCap w (n + m) n e - (n + m))) e)).heap[w.heap.size]? = some (.cells (os.toArray ++ vs.toArray ++ Builtin.zeroCells z.cells (grownCap w (n + m) n e - (n + m))) e) := heap_alloc_new w.drew _
          simp only [World.cell?, this, Nat.zero_add, Option.isSome_none, Bool.false_eq_true, if_false, hv, Array.getD_eq_getD_getElem?, Option.getD_some]
        · obtain ⟨d, hd⟩ : ∃ d, (cs ++ es)[j]? = some d := ⟨(cs ++ es)[j]'(by simp; exact hlt j hj), by simp⟩
          rw [Array.getD_eq_getD_getElem?, hv, Option.getD_some]
          rcases row_get hoc hve hv hd with ⟨a, b⟩ | ⟨a, b⟩
          · exact (so.rep _ v d a b).2
          · exact (src.rep _ v d a b).2
      · have hj : j < (n + m) * i.size := by have := (List.getElem?_eq_some_iff.1 hd).1; simp [so.lc, src.lc, ← Nat.add_mul] at this; exact this
        obtain ⟨v, hv⟩ := hcell j hj
        rw [Array.getD_eq_getD_getElem?, hv, Option.getD_some]
        rcases row_get hoc hve hv hd with ⟨a, b⟩ | ⟨a, b⟩
        · exact (so.rep _ v d a b).1.mono (fun k hk => hbelow.block k hk.1) fun k hk => FSx.ext hbelow hk
        · exact (src.rep _ v d a b).1.mono (fun k hk => hbelow.block k hk.1) fun k hk => FSx.ext hbelow hk

theorem appW_ok (hs : SatC w0 φ S tmps w) (T : AppTy P sT xT e i z u) (src : Src P w (FSx φ S.own w) i.size x m es vs) {sv : Value} {s : D} (hsv : Rep φ w (FSx φ S.own w) sv s) {k : D → St → Prop} (h : appW S i.size i.bytes s m es k) :
    ∃ v w', (Builtin.append_ #[sT, xT] ty #[sv, x]).run P w = .ok v w' ∧ Left w0 S tmps k v w' := by
  cases s with
  | osl id sz' n =>
    obtain ⟨c, hid, rfl, hl, hnc, hlt, hby, h63, hk⟩ := lkoW_ok h
    refine app_own (hs.purgeO id) T (by show Src P w (FSx φ (Abs.purgeO id S.own) w) _ _ _ _ _; rw [FS_purgeO]; exact src) (by show Rep φ w (FSx φ (Abs.purgeO id S.own) w) _ _; rw [FS_purgeO]; exact hsv) (c := c) (by rw [lk_purgeO, hid, Option.map_some, pgD_nm hnc]) hl hby h63 hlt (fun j c' hc d hd => ?_) hk
    rw [lk_purgeO] at hc
    cases e : lk j S.own with
    | none => rw [e] at hc; cases hc
    | some c0 =>
      rw [e] at hc
      have hc : c0.map (pgD id) = c' := Option.some.inj hc
      subst hc
      obtain ⟨d0, _, rfl⟩ := List.mem_map.1 hd
      exact mn_pgD id d0
  | nils =>
    have : sv = .slice none 0 0 := by cases hsv with | ro h => cases h; rfl
    subst this
    exact app_empty hs T src h
  | slx sz' n cs =>
    obtain ⟨rfl, h⟩ := h
    exact app_full hs T src hsv h
  | _ => exact h.elim
end

#print axioms appW_ok
end Go.Abs
