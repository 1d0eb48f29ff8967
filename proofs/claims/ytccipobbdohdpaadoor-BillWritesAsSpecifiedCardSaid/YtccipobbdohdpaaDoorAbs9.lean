/-
  AN ABSTRACT WALK, seventh text: append onto a slice of the call's own, onto a full one; copy; bytes of a string and back; make.
-/
import Derived.Test.YtccipobbdohdpaaDoorAbs6
import Derived.Lib.Strings
section
namespace Go.Abs
open Go.RowKit (Below)

section
variable {P : Program} {w0 : Bas} {w : World} {φ : Loc} {S : St} {tmps : Array Value} {sT xT ty e : TypeId} {i : TypeInfo} {z : Value} {u : TypeDesc} {x : Value} {m : Nat} {es : List D} {vs : List Value}

theorem app_own (hs : SatC w0 φ S tmps w) (T : AppTy P sT xT e i z u) (src : Src P w (FSx φ S.own w) i.size x m es vs) {sv : Value} {id n : Nat} (hsv : Rep φ w (FSx φ S.own w) sv (.osl id i.size n)) {k : D → St → Prop} {c : List D}
    (hid : lk id S.own = some c) (hl : c.length = n * i.size) (hby : (n + m) * i.bytes ≤ 140737488355328) (h63 : n + m ≤ maxLen) (hlt : id < pinB) (hnm : ∀ j c, lk j S.own = some c → ∀ d ∈ c, mn id d = false)
    (hk : k (.osl id i.size (n + m)) ⟨S.n, S.nx, Abs.purge id S.env, setO id (c ++ es) S.own⟩) :
    ∃ v w', (Builtin.append_ #[sT, xT] ty #[sv, x]).run P w = .ok v w' ∧ Left w0 S tmps k v w' := by
  have hve : vs.length = es.length := by rw [src.lv, src.lc]
  cases hsv with
  | ro h => cases h
  | @osl0 _ _ p hb =>
    have h0 : c = [] := List.eq_nil_of_length_eq_zero (by simpa using hl)
    subst h0
    by_cases hm : m = 0
    · subst hm
      have h0 : vs = [] := List.eq_nil_of_length_eq_zero (by rw [src.lv]; simp)
      have h1 : es = [] := List.eq_nil_of_length_eq_zero (by rw [src.lc]; simp)
      subst h0; subst h1
      have hv := src.cells 0 (Nat.le_refl _) w (fun _ _ => rfl)
      simp only [List.take_nil] at hv
      refine ⟨_, _, run_append_fits T.ht T.hi T.hx T.hu src.len hv (by omega) (w' := w) (fun a _ => rfl) (fun _ => rfl), φ, _, _, hk, ?_, .osl0 hb, rfl⟩
      exact SatC.congr_own (hs.purge id) (lk_setO_eq hid)
    · have hv := src.cells m (Nat.le_refl _) w.drew (fun _ _ => rfl)
      rw [List.take_of_length_le (by rw [src.lv]; exact Nat.le_refl _)] at hv
      have ho := (src_empty (P := P) (w := w) (F := FSx φ S.own w) p i.size 0).cells 0 (Nat.le_refl _) w.drew (fun _ _ => rfl)
      simp only [List.take_nil] at ho
      have hrun := run_append_grows (ty := ty) (p := p) (c := 0) T.ht T.hi T.hz T.hx T.hu src.len hv ho (by omega) hby h63
      have hge : 0 + m ≤ grownCap w (0 + m) 0 e := grownCap_ge w _ _ _
      have hle : grownCap w (0 + m) 0 e ≤ maxLen := grownCap_le_maxLen w _ _ _ h63
      have hsz := row_size (os := []) (n := 0) (by simp) src.lv T.hzs (cap := grownCap w (0 + m) 0 e) hge
      refine ⟨_, _, hrun, _, _, _, hk, hs.drew.regrow (cs := [] ++ es) _ e hid ?_ (fun j v d hv hd => ?_) ⟨hlt, fun j c hc _ => hnm j c hc⟩, ?_, rfl⟩
      · rw [hsz, List.nil_append, src.lc]; exact Nat.mul_le_mul_right _ (by omega)
      · rcases row_get (c := []) rfl hve hv hd with ⟨a, b⟩ | ⟨a, b⟩
        · simp at a
        · exact ⟨(Rep.ro (src.rep _ v d a b).1).of_drew, (src.rep _ v d a b).2, mn_of_repR (src.rep _ v d a b).1 _⟩
      · refine Rep.osl (by rw [upd_same]; rfl) ?_ hge hle
        rw [upd_same]
        exact hsz.symm
  | @osl _ _ _ cap b hb he hn hmx =>
    obtain ⟨arr, Tb, fz, h1, h2, h3, h4, h5, h6⟩ := own_cells hs hid hb
    have h0 := (hs.own id c hid).1
    by_cases hroom : n + m ≤ cap
    · have hv := src.cells m (Nat.le_refl _) w (fun _ _ => rfl)
      rw [List.take_of_length_le (by rw [src.lv]; exact Nat.le_refl _)] at hv
      have hfit : n * i.size + vs.length ≤ arr.size := by rw [src.lv, h2, ← he, ← Nat.add_mul]; exact Nat.mul_le_mul_right _ hroom
      have h1v : ∀ v ∈ vs, v.oneCell' = true := fun v hv => by
        obtain ⟨j, hj, rfl⟩ := List.getElem_of_mem hv
        exact (src.rep j vs[j] (es[j]'(by omega)) (by simp [hj]) (by simp)).2
      have hst := run_storeCells_cells (P := P) b (n * i.size) vs 0 w (fun j hj => by simp only [World.cell?, h1]; simp; omega) (fun j hj => by
        simp only [World.frozen?, h1, Nat.add_zero]
        have := h4 (n * i.size + j) (by omega)
        simp only [Bool.and_eq_false_iff, decide_eq_false_iff_not]
        omega) h1v
      simp only [Nat.add_zero] at hst
      refine ⟨_, _, run_append_fits T.ht T.hi T.hx T.hu src.len hv hroom (w' := w.setCells b (n * i.size) vs) (fun a ha => by cases ha; rw [addr_add, Nat.zero_add]; exact hst) (fun h => by cases h), φ, _, _, hk, ?_, .osl hb he hroom hmx, rfl⟩
      have hm := hs.mod (cs := c ++ es) (arr := setArr arr (n * i.size) vs) (T := Tb) (fz := fz) hid hb (setCells_os b vs _ w).1 (setCells_os b vs _ w).2.1 (setCells_os b vs _ w).2.2 (setCells_size b vs _ w)
        (fun k hk => setCells_heap_other b vs _ w k hk) (setCells_heap_same b vs _ w arr Tb fz h1) (by rw [setArr_size, h2]) (fun o ho => h4 o (by rwa [setArr_size] at ho)) (by rw [setArr_size]; simp; omega) ?_
      · exact hm.purge id
      · intro j v d hv hd
        rw [setArr_get vs _ arr j hfit] at hv
        rw [List.getElem?_append] at hd
        by_cases hj : j < c.length
        · rw [if_pos hj] at hd
          rw [if_neg (by omega)] at hv
          have := h6 j d hd
          rw [Array.getD_eq_getD_getElem?, hv, Option.getD_some] at this
          exact this
        · rw [if_neg hj] at hd
          have : j - c.length < es.length := (List.getElem?_eq_some_iff.1 hd).1
          rw [if_pos (by omega)] at hv
          rw [hl] at hd
          exact ⟨.ro (src.rep _ v d hv hd).1, (src.rep _ v d hv hd).2⟩
    · have hv := src.cells m (Nat.le_refl _) w.drew (fun _ _ => rfl)
      rw [List.take_of_length_le (by rw [src.lv]; exact Nat.le_refl _)] at hv
      have ho : (Builtin.firstCells i.size n (.slice (some ⟨b, 0, none⟩) n cap)).run P w.drew = .ok ((List.range (n * i.size)).map fun j => arr.getD j undef).toArray w.drew := by
        have := run_loadCells (P := P) w.drew ⟨b, 0, none⟩ (n * i.size) (fun j => arr.getD j undef) (fun j hj => by rw [addr_add, Nat.zero_add]; exact h5 j (by omega))
        simp only [Builtin.firstCells, this]
      have hrun := run_append_grows (ty := ty) (p := some ⟨b, 0, none⟩) (c := cap) T.ht T.hi T.hz T.hx T.hu src.len hv ho (by omega) hby h63
      have hge : n + m ≤ grownCap w (n + m) cap e := grownCap_ge w _ _ _
      have hle : grownCap w (n + m) cap e ≤ maxLen := grownCap_le_maxLen w _ _ _ h63
      have hsz := row_size (os := (List.range (n * i.size)).map fun j => arr.getD j undef) (by simp) src.lv T.hzs hge
      refine ⟨_, _, hrun, _, _, _, hk, hs.drew.regrow (cs := c ++ es) _ e hid ?_ (fun j v d hv hd => ?_) ⟨hlt, fun j c hc _ => hnm j c hc⟩, ?_, rfl⟩
      · rw [hsz, List.length_append, src.lc, hl, ← Nat.add_mul]; exact Nat.mul_le_mul_right _ hge
      · rcases row_get (by simp [hl]) hve hv hd with ⟨a, b'⟩ | ⟨a, b'⟩
        · have hj : j < n * i.size := by have := (List.getElem?_eq_some_iff.1 a).1; simpa using this
          simp only [List.getElem?_map, hj, List.getElem?_range, Option.map_some, Option.some.injEq] at a
          subst a
          exact ⟨(h6 j d b').1.of_drew, (h6 j d b').2, hnm id c hid d (List.mem_of_getElem? b')⟩
        · exact ⟨(Rep.ro (src.rep _ v d a b').1).of_drew, (src.rep _ v d a b').2, mn_of_repR (src.rep _ v d a b').1 _⟩
      · refine Rep.osl (by rw [upd_same]; rfl) ?_ hge hle
        rw [upd_same]
        exact hsz.symm

/-- .. onto a slice without room behind it. -/
theorem app_full (hs : SatC w0 φ S tmps w) (T : AppTy P sT xT e i z u) (src : Src P w (FSx φ S.own w) i.size x m es vs) {sv : Value} {n : Nat} {cs : List D} (hsv : Rep φ w (FSx φ S.own w) sv (.slx i.size n cs)) {k : D → St → Prop}
    (h : roomW (n + m) i.bytes ((n = 0 ∧ newW S es fun S' => k (.osl S.nx i.size m) S') ∨ (0 < m ∧ newW S (cs ++ es) fun S' => k (.osl S.nx i.size (n + m)) S') ∨ k (.sl i.size (n + m) (cs ++ es)) S)) :
    ∃ v w', (Builtin.append_ #[sT, xT] ty #[sv, x]).run P w = .ok v w' ∧ Left w0 S tmps k v w' := by
  have hve : vs.length = es.length := by rw [src.lv, src.lc]
  have hshape : ∃ p, sv = .slice p n n := by
    cases hsv with | ro h => cases h with
    | slx0 => exact ⟨_, rfl⟩
    | slx => exact ⟨_, rfl⟩
  obtain ⟨p, rfl⟩ := hshape
  obtain ⟨hby, h63, h⟩ := h
  rcases h with ⟨rfl, h⟩ | h
  · exact app_empty hs T src (p := p) ⟨by simpa using hby, by simpa using h63, h⟩
  obtain ⟨os, so⟩ : ∃ os, Src P w (FSx φ S.own w) i.size (.slice p n n) n cs os := by
    obtain ⟨n', cs', os, ⟨e1, e2⟩, so⟩ := srcW_ok (P := P) (k := fun a b => a = n ∧ b = cs) hs hsv (show srcW S i.size (.slx i.size n cs) _ from ⟨rfl, rfl, rfl⟩)
    subst e1; subst e2; exact ⟨os, so⟩
  have hoc : os.length = cs.length := by rw [so.lv, so.lc]
  by_cases hm : m = 0
  · subst hm
    have h0 : vs = [] := List.eq_nil_of_length_eq_zero (by rw [src.lv]; simp)
    have h1 : es = [] := List.eq_nil_of_length_eq_zero (by rw [src.lc]; simp)
    subst h0; subst h1
    rcases h with ⟨h, _⟩ | hk
    · omega
    have hv := src.cells 0 (Nat.le_refl _) w (fun _ _ => rfl)
    simp only [List.take_nil] at hv
    refine ⟨_, _, run_append_fits T.ht T.hi T.hx T.hu src.len hv (by omega) (w' := w) (fun a _ => rfl) (fun _ => rfl), φ, _, _, hk, hs, ?_, rfl⟩
    rw [Nat.add_zero, List.append_nil]
    cases hsv with | ro h => cases h with
    | slx0 => exact .ro (.sl0 (by simp [maxLen]))
    | slx g a b c d e f => exact .ro (.sl g a b (Nat.le_refl _) c d e f)
  · have hv := src.cells m (Nat.le_refl _) w.drew (fun _ _ => rfl)
    rw [List.take_of_length_le (by rw [src.lv]; exact Nat.le_refl _)] at hv
    have ho := so.cells n (Nat.le_refl _) w.drew (fun _ _ => rfl)
    rw [List.take_of_length_le (by rw [so.lv]; exact Nat.le_refl _)] at ho
    have hrun := run_append_grows (ty := ty) (p := p) (c := n) T.ht T.hi T.hz T.hx T.hu src.len hv ho (by omega) hby h63
    have hge : n + m ≤ grownCap w (n + m) n e := grownCap_ge w _ _ _
    have hle : grownCap w (n + m) n e ≤ maxLen := grownCap_le_maxLen w _ _ _ h63
    have hsz := row_size so.lv src.lv T.hzs hge
    rcases h with ⟨_, h⟩ | hk
    · obtain ⟨hnm, hk⟩ := nmW_ok h
      refine ⟨_, _, hrun, _, _, _, hk, hs.newDrew rfl hoc hve so.rep src.rep hnm, ?_, rfl⟩
      refine Rep.osl (by rw [upd_same]) ?_ hge hle
      rw [upd_same]
      exact hsz.symm
    · refine ⟨_, _, hrun, φ, _, _, hk, hs.ext ((Below.refl _ _).drew.alloc (Nat.le_refl _) _), ?_, rfl⟩
      have hlt : ∀ j, j < (n + m) * i.size → j < cs.length + es.length := fun j hj => by rw [so.lc, src.lc, ← Nat.add_mul]; exact hj
      have hbelow : Below w.heap.size w (w.drew.alloc (.cells (os.toArray ++ vs.toArray ++ Builtin.zeroCells z.cells (grownCap w (n + m) n e - (n + m))) e)) := (Below.refl _ _).drew.alloc (Nat.le_refl _) _
      have hcell : ∀ j, j < (n + m) * i.size → ∃ v, (os.toArray ++ vs.toArray ++ Builtin.zeroCells z.cells (grownCap w (n + m) n e - (n + m)))[j]? = some v := fun j hj => by
        have : j < (os.toArray ++ vs.toArray ++ Builtin.zeroCells z.cells (grownCap w (n + m) n e - (n + m))).size := by rw [hsz]; exact Nat.lt_of_lt_of_le hj (Nat.mul_le_mul_right _ hge)
        exact ⟨_, Array.getElem?_eq_getElem this⟩
      refine .ro (.sl (fun j => (os.toArray ++ vs.toArray ++ Builtin.zeroCells z.cells (grownCap w (n + m) n e - (n + m))).getD j undef) rfl ?_ hge hle (by rw [List.length_append, so.lc, src.lc, ← Nat.add_mul]) (fun j hj => ?_) (fun j d hd => ?_))
      · exact ⟨by simp, fun id c hc hb => absurd ((hs.own id c hc).1.lt hb) (Nat.lt_irrefl _), hs.newBase⟩
      · obtain ⟨v, hv⟩ := hcell j hj
        refine ⟨?_, ?_⟩
        · have : (w.drew.alloc (.cells (os.toArray ++ vs.toArray ++ Builtin.zeroCells z.cells (grownCap w (n + m) n e - (n + m))) e)).heap[w.heap.size]? = some (.cells (os.toArray ++ vs.toArray ++ Builtin.zeroCells z.cells (grownCap w (n + m) n e - (n + m))) e) := heap_alloc_new w.drew _
          simp only [World.cell?, this, Nat.zero_add, Option.isSome_none, Bool.false_eq_true, if_false, hv, Array.getD_eq_getD_getElem?, Option.getD_some]
        · obtain ⟨d, hd⟩ : ∃ d, (cs ++ es)[j]? = some d := ⟨(cs ++ es)[j]'(by simp; exact hlt j hj), by simp⟩
          rw [Array.getD_eq_getD_getElem?, hv, Option.getD_some]
          rcases row_get hoc hve hv hd with ⟨a, b⟩ | ⟨a, b⟩
          · exact (so.rep _ v d a b).2
          · exact (src.rep _ v d a b).2
      · have hj : j < (n + m) * i.size := by have := (List.getElem?_eq_some_iff.1 hd).1; simp [so.lc, src.lc, ← Nat.add_mul] at this; exact this
        obtain ⟨v, hv⟩ := hcell j hj
        rw [Array.getD_eq_getD_getElem?, hv, Option.getD_some]
        rcases row_get hoc hve hv hd with ⟨a, b⟩ | ⟨a, b⟩
        · exact (so.rep _ v d a b).1.mono (fun k hk => hbelow.block k hk.1) fun k hk => FSx.ext hbelow hk
        · exact (src.rep _ v d a b).1.mono (fun k hk => hbelow.block k hk.1) fun k hk => FSx.ext hbelow hk

theorem appW_ok (hs : SatC w0 φ S tmps w) (T : AppTy P sT xT e i z u) (src : Src P w (FSx φ S.own w) i.size x m es vs) {sv : Value} {s : D} (hsv : Rep φ w (FSx φ S.own w) sv s) {k : D → St → Prop} (h : appW S i.size i.bytes s m es k) :
    ∃ v w', (Builtin.append_ #[sT, xT] ty #[sv, x]).run P w = .ok v w' ∧ Left w0 S tmps k v w' := by
  cases s with
  | osl id sz' n =>
    obtain ⟨c, hid, rfl, hl, hnc, hlt, hby, h63, hk⟩ := lkoW_ok h
    refine app_own (hs.purgeO id) T (by show Src P w (FSx φ (Abs.purgeO id S.own) w) _ _ _ _ _; rw [FS_purgeO]; exact src) (by show Rep φ w (FSx φ (Abs.purgeO id S.own) w) _ _; rw [FS_purgeO]; exact hsv) (c := c) (by rw [lk_purgeO, hid, Option.map_some, pgD_nm hnc]) hl hby h63 hlt (fun j c' hc d hd => ?_) hk
    rw [lk_purgeO] at hc
    cases e : lk j S.own with
    | none => rw [e] at hc; cases hc
    | some c0 =>
      rw [e] at hc
      have hc : c0.map (pgD id) = c' := Option.some.inj hc
      subst hc
      obtain ⟨d0, _, rfl⟩ := List.mem_map.1 hd
      exact mn_pgD id d0
  | nils =>
    have : sv = .slice none 0 0 := by cases hsv with | ro h => cases h; rfl
    subst this
    exact app_empty hs T src h
  | slx sz' n cs =>
    obtain ⟨rfl, h⟩ := h
    exact app_full hs T src hsv h
  | _ => exact h.elim
end

#print axioms appW_ok
end Go.Abs
end
section
namespace Go.Abs
open Go.RowKit (Below)

section
variable {P : Program} {w0 : Bas} {w : World} {φ : Loc} {S : St} {tmps : Array Value}

theorem left_same (hs : SatC w0 φ S tmps w) {k : D → St → Prop} {v : Value} {d : D} (hk : k d S) (hr : Rep φ w (FSx φ S.own w) v d) : Left w0 S tmps k v w := ⟨φ, d, S, hk, hs, hr, rfl⟩

/-! ### A place in a row -/
def ixW (ty : TY) (sz : Nat) (dx di : D) (k : D → Prop) : Prop :=
  match di with
  | .int _ n =>
    match ty with
    | .slice _ =>
      match dx with
      | .sl sz' m cs | .slx sz' m cs => sz' = sz ∧ 0 ≤ n ∧ n < m ∧ k (.rop cs (n.toNat * sz))
      | .osl id sz' m => sz' = sz ∧ 0 ≤ n ∧ n < m ∧ k (.ptr id (n.toNat * sz))
      | .osw id off sz' m => sz' = sz ∧ 0 ≤ n ∧ n < m ∧ k (.ptr id (off + n.toNat * sz))
      | _ => False
    | .arr len _ =>
      match dx with
      | .ptr id off => 0 ≤ n ∧ n < len ∧ k (.ptr id (off + n.toNat * sz))
      | .rop cs off => 0 ≤ n ∧ n < len ∧ k (.rop cs (off + n.toNat * sz))
      | _ => False
    | _ => False
  | _ => False

theorem run_indexAt_slice {T e : TypeId} {i : TypeInfo} (ht : P.underlying T = some (.slice e)) (hi : P.info? e = some i) {a : Addr} {m c : Nat} {kk : IntKind} {n : Int} (h0 : 0 ≤ n) (h1 : n < m) :
    (Instr.indexAt T (.slice (some a) m c) (.int kk n)).run P w = .ok (.pointer (some (a.add (n.toNat * i.size)))) w := by
  simp [Instr.indexAt, asIntOf, run_underlying ht, h0, h1, sizeOf, typeInfo, hi]
theorem run_indexAt_arr {T e : TypeId} {i : TypeInfo} {len : Nat} (ht : P.underlying T = some (.array len e)) (hi : P.info? e = some i) {a : Addr} {kk : IntKind} {n : Int} (h0 : 0 ≤ n) (h1 : n < len) :
    (Instr.indexAt T (.pointer (some a)) (.int kk n)).run P w = .ok (.pointer (some (a.add (n.toNat * i.size)))) w := by
  simp [Instr.indexAt, asIntOf, run_underlying ht, h0, h1, sizeOf, typeInfo, hi, Instr.sureAddr]

theorem ixW_ok (hs : SatC w0 φ S tmps w) {T e : TypeId} {i : TypeInfo} (hi : P.info? e = some i) (he : (∃ n, tyOf P T = .arr n e) ∨ tyOf P T = .slice e) {xv iv : Value} {dx di : D} (hx : Rep φ w (FSx φ S.own w) xv dx) (hiv : Rep φ w (FSx φ S.own w) iv di) {k : D → Prop}
    (h : ixW (tyOf P T) i.size dx di k) : ∃ v d, (Instr.indexAt T xv iv).run P w = .ok v w ∧ k d ∧ Rep φ w (FSx φ S.own w) v d := by
  unfold ixW at h
  split at h
  case h_2 => exact h.elim
  case h_1 kk n =>
  obtain ⟨rfl, _⟩ := hiv.int_inv
  rcases he with ⟨len, he⟩ | he
  · rw [he] at h
    simp only at h
    have ht := tyOf_arr he
    split at h
    · obtain ⟨h0, h1, hk⟩ := h
      rename_i id off
      cases hx with
      | ro hx => cases hx
      | ptr hb => exact ⟨_, _, run_indexAt_arr ht hi h0 h1, hk, by rw [addr_add]; exact .ptr hb⟩
    · obtain ⟨h0, h1, hk⟩ := h
      cases hx with
      | ro hx => cases hx with
        | rop g a b c => exact ⟨_, _, run_indexAt_arr ht hi h0 h1, hk, by rw [addr_add, Nat.add_assoc]; exact .ro (.rop g a b c)⟩
    · exact h.elim
  · rw [he] at h
    simp only at h
    have ht := tyOf_slice he
    split at h
    · obtain ⟨rfl, h0, h1, hk⟩ := h
      cases hx with
      | ro hx => cases hx with
        | sl0 => omega
        | sl g a b c d e' f j => exact ⟨_, _, run_indexAt_slice ht hi h0 h1, hk, by rw [addr_add' a]; exact .ro (.rop g b (fun j hj => f j (by omega)) j)⟩
    · obtain ⟨rfl, h0, h1, hk⟩ := h
      cases hx with
      | ro hx => cases hx with
        | slx0 => omega
        | slx g a b c d e' f => exact ⟨_, _, run_indexAt_slice ht hi h0 h1, hk, by rw [addr_add' a]; exact .ro (.rop g b (fun j hj => e' j (by omega)) f)⟩
    · obtain ⟨rfl, h0, h1, hk⟩ := h
      cases hx with
      | ro hx => cases hx
      | osl0 hb => omega
      | osl hb a b c => exact ⟨_, _, run_indexAt_slice ht hi h0 h1, hk, by rw [addr_add, Nat.zero_add]; exact .ptr hb⟩
    · obtain ⟨rfl, h0, h1, hk⟩ := h
      cases hx with
      | ro hx => cases hx
      | osw0 hb => omega
      | osw hb a b c => exact ⟨_, _, run_indexAt_slice ht hi h0 h1, hk, by rw [addr_add]; exact .ptr hb⟩
    · exact h.elim

/-! ### A field -/
def fldW (P : Program) (t : TypeId) (f : Nat) (k : Nat → TypeId → Prop) : Prop :=
  match tyOf P t with
  | .struct fs => match fs[f]? with | some (o, ft) => k o ft | none => False
  | _ => False
theorem fldW_ok {t : TypeId} {f : Nat} {k : Nat → TypeId → Prop} (h : fldW P t f k) : ∃ (a : Array Field) (x : Field), P.underlying t = some (.struct a) ∧ a[f]? = some x ∧ k x.offset x.type := by
  unfold fldW at h
  split at h
  · rename_i fs e
    obtain ⟨a, ha, hfs⟩ := tyOf_struct e
    split at h
    · rename_i o ft hf
      rw [hfs] at hf
      simp only [List.getElem?_map, Array.getElem?_toList] at hf
      cases hx : a[f]? with
      | none => simp [hx] at hf
      | some x =>
        simp [hx] at hf
        obtain ⟨rfl, rfl⟩ := hf
        exact ⟨a, x, ha, hx, h⟩
    · exact h.elim
  · exact h.elim

def faW (dx : D) (o : Nat) (k : D → Prop) : Prop :=
  match dx with
  | .ptr id off => k (.ptr id (off + o))
  | .rop cs off => k (.rop cs (off + o))
  | _ => False
theorem faW_ok (hs : SatC w0 φ S tmps w) {T : TypeId} {f : Nat} {xv : Value} {dx : D} (hx : Rep φ w (FSx φ S.own w) xv dx) {k : D → Prop} (h : fldW P T f fun o ft => szW P ft fun n => n ≠ 0 ∧ faW dx o k) :
    ∃ v d, (Instr.fieldAt T xv f).run P w = .ok v w ∧ k d ∧ Rep φ w (FSx φ S.own w) v d := by
  obtain ⟨a, x, ha, hx', h⟩ := fldW_ok h
  obtain ⟨i, hi, hn, h⟩ := szW_ok h
  unfold faW at h
  split at h
  · cases hx with
    | ro hx => cases hx
    | ptr hb => exact ⟨_, _, by simp [Instr.fieldAt, run_underlying ha, hx', Instr.sureAddr, fieldPlace, sizeOf, typeInfo, hi, hn]; rfl, h, by rw [addr_add]; exact .ptr hb⟩
  · cases hx with
    | ro hx => cases hx with
      | rop g b c d => exact ⟨_, _, by simp [Instr.fieldAt, run_underlying ha, hx', Instr.sureAddr, fieldPlace, sizeOf, typeInfo, hi, hn]; rfl, h, by rw [addr_add, Nat.add_assoc]; exact .ro (.rop g b c d)⟩
  · exact h.elim

theorem run_part {t : TypeId} {i : TypeInfo} {ag : Bool} (hag : isAg (tyOf P t) = some ag) (hi : P.info? t = some i) {cs : Array Value} {o : Nat} {v : Value} (hv : ag = false → cs[o]? = some v) :
    (part t cs o).run P w = .ok (if ag = true then .agg (cs.extract o (o + i.size)) else v) w := by
  unfold part
  rw [Sem.run_bind, run_isAgg hag, Result.andThen_ok]
  cases ag with
  | true => simp [sizeOf, typeInfo, hi]
  | false => simp [hv rfl]

def fvW (dx : D) (ag : Bool) (sz o : Nat) (k : D → Prop) : Prop :=
  match dx with
  | .agg cs => rdW ag sz cs o .agg k
  | .oag cs => rdW ag sz cs o .oag k
  | _ => False

/-- A part of a struct or an array that is a value. -/
theorem part_ok {t : TypeId} {i : TypeInfo} {ag : Bool} (hag : isAg (tyOf P t) = some ag) (hi : P.info? t = some i) {xv : Value} {dx : D} {o : Nat} (hx : Rep φ w (FSx φ S.own w) xv dx) {k : D → Prop} (h : fvW dx ag i.size o k) :
    ∃ cs v d, xv = .agg cs ∧ (part t cs o).run P w = .ok v w ∧ k d ∧ Rep φ w (FSx φ S.own w) v d := by
  have core : ∀ (vs : Array Value) (ds : List D) (mk : List D → D), vs.size = ds.length → (∀ (i : Nat) (v : Value), vs[i]? = some v → v.oneCell' = true) → (∀ (i : Nat) (v : Value) (d : D), vs[i]? = some v → ds[i]? = some d → Rep φ w (FSx φ S.own w) v d) →
      (∀ (us : Array Value) (es : List D), us.size = es.length → (∀ (i : Nat) (v : Value), us[i]? = some v → v.oneCell' = true) → (∀ (i : Nat) (v : Value) (d : D), us[i]? = some v → es[i]? = some d → ∃ j : Nat, vs[j]? = some v ∧ ds[j]? = some d) → Rep φ w (FSx φ S.own w) (.agg us) (mk es)) →
      rdW ag i.size ds o mk k → ∃ v d, (part t vs o).run P w = .ok v w ∧ k d ∧ Rep φ w (FSx φ S.own w) v d := by
    intro vs ds mk hl h1 hr hmk h
    cases ag with
    | true =>
      obtain ⟨hle, hk⟩ := h
      refine ⟨_, _, run_part (v := undef) hag hi (fun h => by cases h), hk, ?_⟩
      simp only [if_true]
      refine hmk _ _ (by simp; omega) (fun j v hv => ?_) (fun j v d hv hd => ?_)
      · rw [Array.getElem?_extract] at hv
        split at hv
        · exact h1 _ v hv
        · cases hv
      · rw [Array.getElem?_extract] at hv
        rw [List.getElem?_take] at hd
        split at hv
        · split at hd
          · exact ⟨o + j, hv, by rw [List.getElem?_drop] at hd; exact hd⟩
          · cases hd
        · cases hv
    | false =>
      obtain ⟨d, hd, hk⟩ := nthW_ok h
      have hlt : o < vs.size := by rw [hl]; exact (List.getElem?_eq_some_iff.1 hd).1
      exact ⟨_, d, run_part hag hi (fun _ => Array.getElem?_eq_getElem hlt), hk, hr o _ d (Array.getElem?_eq_getElem hlt) hd⟩
  unfold fvW at h
  split at h
  · rename_i cs
    cases hx with
    | ro hx => cases hx with
      | @agg vs _ a b c =>
        obtain ⟨v, d, e1, e2, e3⟩ := core vs cs .agg a b (fun i v d hv hd => .ro (c i v d hv hd)) (fun us es l1 l2 l3 => .ro (.agg l1 l2 fun i v d hv hd => by obtain ⟨j, a1, a2⟩ := l3 i v d hv hd; exact c j v d a1 a2)) h
        exact ⟨vs, v, d, rfl, e1, e2, e3⟩
  · rename_i cs
    cases hx with
    | ro hx => cases hx
    | @oag vs _ a b c =>
      obtain ⟨v, d, e1, e2, e3⟩ := core vs cs .oag a b c (fun us es l1 l2 l3 => .oag l1 l2 fun i v d hv hd => by obtain ⟨j, a1, a2⟩ := l3 i v d hv hd; exact c j v d a1 a2) h
      exact ⟨vs, v, d, rfl, e1, e2, e3⟩
  · exact h.elim

theorem fieldW_ok {T : TypeId} {f : Nat} {xv : Value} {dx : D} (hx : Rep φ w (FSx φ S.own w) xv dx) {k : D → Prop} (h : fldW P T f fun o ft => szW P ft fun n => ∃ ag, isAg (tyOf P ft) = some ag ∧ fvW dx ag n o k) :
    ∃ v d, (Instr.field T xv f).run P w = .ok v w ∧ k d ∧ Rep φ w (FSx φ S.own w) v d := by
  obtain ⟨a, x, ha, hx', h⟩ := fldW_ok h
  obtain ⟨i, hi, ag, hag, h⟩ := szW_ok h
  obtain ⟨cs, v, d, rfl, hrun, hk, hr⟩ := part_ok hag hi hx h
  exact ⟨v, d, by simp [Instr.field, run_underlying ha, hx', asAgg, hrun], hk, hr⟩

/-! ### A value of an array, a string, at an index -/
def inxW (ty : TY) (ag : Option Bool) (sz : Nat) (dx di : D) (k : D → Prop) : Prop :=
  match di with
  | .int _ n =>
    match ty, dx with
    | .str, .str s => 0 ≤ n ∧ ∃ h : n.toNat < s.length, k (.int .u8 s[n.toNat].toNat)
    | .arr len _, dx => 0 ≤ n ∧ n < len ∧ ∃ a, ag = some a ∧ fvW dx a sz (n.toNat * sz) k
    | _, _ => False
  | _ => False
theorem inx_str_ok {T : TypeId} (ht : tyOf P T = .str) {xv iv : Value} {s : List UInt8} {di : D} (hx : Rep φ w (FSx φ S.own w) xv (.str s)) (hiv : Rep φ w (FSx φ S.own w) iv di) {k : D → Prop} {kk : IntKind} {n : Int} (hdi : di = .int kk n)
    (h : 0 ≤ n ∧ ∃ h : n.toNat < s.length, k (.int .u8 s[n.toNat].toNat)) : ∃ v d, (Instr.index T xv iv).run P w = .ok v w ∧ k d ∧ Rep φ w (FSx φ S.own w) v d := by
  subst hdi
  obtain ⟨rfl, _⟩ := hiv.int_inv
  obtain ⟨b, rfl, hb, hl⟩ := hx.str_inv
  obtain ⟨h0, h1, hk⟩ := h
  subst hb
  have hg : b[n.toNat]? = some (b.data.toList[n.toNat]) := by
    have hsz : n.toNat < b.size := by rw [ba_size]; exact h1
    rw [getElem?_pos b n.toNat hsz]
    rfl
  refine ⟨.int .u8 (b.data.toList[n.toNat].toNat), _, ?_, hk, .ro (.int ?_ ?_)⟩
  · simp [Instr.index, asIntOf, run_underlying (tyOf_str ht), h0, hg]
  · show (0 : Int) ≤ _; omega
  · have := (b.data.toList[n.toNat]).toNat_lt
    show _ ≤ (255 : Int); omega
theorem inx_arr_ok {T e : TypeId} {len : Nat} (ht : tyOf P T = .arr len e) {i : TypeInfo} (hi : P.info? e = some i) {xv iv : Value} {dx di : D} (hx : Rep φ w (FSx φ S.own w) xv dx) (hiv : Rep φ w (FSx φ S.own w) iv di) {k : D → Prop} {kk : IntKind} {n : Int} (hdi : di = .int kk n)
    (h : 0 ≤ n ∧ n < len ∧ ∃ a, isAg (tyOf P e) = some a ∧ fvW dx a i.size (n.toNat * i.size) k) : ∃ v d, (Instr.index T xv iv).run P w = .ok v w ∧ k d ∧ Rep φ w (FSx φ S.own w) v d := by
  subst hdi
  obtain ⟨rfl, _⟩ := hiv.int_inv
  obtain ⟨h0, h1, ag, hag, h⟩ := h
  obtain ⟨cs, v, d, rfl, hrun, hk, hr⟩ := part_ok hag hi hx h
  exact ⟨v, d, by simp [Instr.index, asIntOf, run_underlying (tyOf_arr ht), h0, h1, sizeOf, typeInfo, hi, hrun], hk, hr⟩
end

#print axioms ixW_ok
#print axioms fieldW_ok
#print axioms inx_arr_ok
end Go.Abs
end
section
namespace Go.Abs
open Go.RowKit (Below)

section
variable {P : Program} {w0 : Bas} {w : World} {φ : Loc} {S : St} {tmps : Array Value}

/-! ### x[lo:hi], x[lo:hi:max] -/
/-- The two or three bounds, as numbers. -/
def boD (d : Option D) (k : Option Int → Prop) : Prop :=
  match d with
  | none => k none
  | some (.int _ n) => k (some n)
  | _ => False

def slcW (ty : TY) (sz : Nat) (dx : D) (lo hi mx : Option Int) (k : D → Prop) : Prop :=
  match ty, dx with
  | .str, .str s => mx = none ∧ 0 ≤ lo.getD 0 ∧ lo.getD 0 ≤ hi.getD s.length ∧ hi.getD s.length ≤ s.length ∧ k (.str ((s.drop (lo.getD 0).toNat).take ((hi.getD s.length).toNat - (lo.getD 0).toNat)))
  | .slice _, .sl sz' n cs | .slice _, .slx sz' n cs =>
    sz' = sz ∧ 0 ≤ lo.getD 0 ∧ lo.getD 0 ≤ hi.getD n ∧ hi.getD n ≤ n ∧
      match mx with
      | none => k (.sl sz ((hi.getD n).toNat - (lo.getD 0).toNat) ((cs.drop ((lo.getD 0).toNat * sz)).take (((hi.getD n).toNat - (lo.getD 0).toNat) * sz)))
      | some m => m = hi.getD n ∧ hi.isSome = true ∧ k (.slx sz ((hi.getD n).toNat - (lo.getD 0).toNat) ((cs.drop ((lo.getD 0).toNat * sz)).take (((hi.getD n).toNat - (lo.getD 0).toNat) * sz)))
  | .slice _, .osl id sz' n => sz' = sz ∧ mx = none ∧ 0 ≤ lo.getD 0 ∧ lo.getD 0 ≤ hi.getD n ∧ hi.getD n ≤ n ∧ k (.osw id ((lo.getD 0).toNat * sz) sz ((hi.getD n).toNat - (lo.getD 0).toNat))
  | .slice _, .osw id off sz' n => sz' = sz ∧ mx = none ∧ 0 ≤ lo.getD 0 ∧ lo.getD 0 ≤ hi.getD n ∧ hi.getD n ≤ n ∧ k (.osw id (off + (lo.getD 0).toNat * sz) sz ((hi.getD n).toNat - (lo.getD 0).toNat))
  | .arr len _, .ptr id off => mx = none ∧ 0 ≤ lo.getD 0 ∧ lo.getD 0 ≤ hi.getD len ∧ hi.getD len ≤ len ∧ lkoW id S.own fun c => off + len * sz ≤ c.length ∧ len ≤ maxLen ∧ k (.osw id (off + (lo.getD 0).toNat * sz) sz ((hi.getD len).toNat - (lo.getD 0).toNat))
  | .arr len _, .rop cs off => mx = none ∧ 0 ≤ lo.getD 0 ∧ lo.getD 0 ≤ hi.getD len ∧ hi.getD len ≤ len ∧ off + len * sz ≤ cs.length ∧ len ≤ maxLen ∧ k (.sl sz ((hi.getD len).toNat - (lo.getD 0).toNat) ((cs.drop (off + (lo.getD 0).toNat * sz)).take (((hi.getD len).toNat - (lo.getD 0).toNat) * sz)))
  | _, _ => False

/-- Bounds as the machine has them. -/
def BoOk (w : World) (v : Option Value) (d : Option Int) : Prop :=
  match v, d with
  | none, none => True
  | some v, some n => ∃ k, v = .int k n
  | _, _ => False
theorem run_sliceBound {v : Value} {k : IntKind} {n : Int} {y : Nat} {code : BoundsCode} (hv : v = .int k n) (h0 : 0 ≤ n) (h1 : n ≤ y) : (Instr.sliceBound v y code).run P w = .ok n.toNat w := by
  subst hv; simp [Instr.sliceBound, asIntOf, h0, h1]

theorem run_sliceBounds {isS : Bool} {len cap : Nat} {lo hi mx : Option Value} {l h m : Option Int} (hl : BoOk w lo l) (hh : BoOk w hi h) (hm : BoOk w mx m) (h0 : 0 ≤ l.getD 0) (h1 : l.getD 0 ≤ h.getD len) (h2 : h.getD len ≤ len) (hlc : len ≤ cap)
    (hmx : ∀ x, m = some x → x = h.getD len ∧ h.isSome = true) :
    (Instr.sliceBounds isS len cap lo hi mx).run P w = .ok ((l.getD 0).toNat, (h.getD len).toNat, (m.getD cap).toNat) w := by
  cases m with
  | none =>
    cases mx with
    | some x => exact hm.elim
    | none =>
      cases h with
      | none =>
        cases hi with
        | some x => exact hh.elim
        | none =>
          cases l with
          | none =>
            cases lo with
            | some x => exact hl.elim
            | none => simp [Instr.sliceBounds]
          | some ln =>
            cases lo with
            | none => exact hl.elim
            | some x =>
              obtain ⟨k, rfl⟩ := hl
              simp only [Option.getD_some, Option.getD_none] at h0 h1
              simp [Instr.sliceBounds, run_sliceBound rfl h0 h1]
      | some hn =>
        cases hi with
        | none => exact hh.elim
        | some x =>
          obtain ⟨k, rfl⟩ := hh
          simp only [Option.getD_some] at h1 h2
          have hb : ∀ c, (Instr.sliceBound (.int k hn) cap c).run P w = .ok hn.toNat w := fun c => run_sliceBound rfl (by omega) (by omega)
          cases l with
          | none =>
            cases lo with
            | some x => exact hl.elim
            | none => cases isS <;> simp [Instr.sliceBounds, hb]
          | some ln =>
            cases lo with
            | none => exact hl.elim
            | some x =>
              obtain ⟨k', rfl⟩ := hl
              simp only [Option.getD_some] at h0 h1
              have hb' : ∀ c, (Instr.sliceBound (.int k' ln) hn.toNat c).run P w = .ok ln.toNat w := fun c => run_sliceBound rfl h0 (by omega)
              cases isS <;> simp [Instr.sliceBounds, hb, hb']
  | some mn =>
    obtain ⟨rfl, hs⟩ := hmx mn rfl
    cases h with
    | none => cases hs
    | some hn =>
      cases hi with
      | none => exact hh.elim
      | some x =>
        obtain ⟨k, rfl⟩ := hh
        cases mx with
        | none => exact hm.elim
        | some y =>
          obtain ⟨k2, rfl⟩ := hm
          simp only [Option.getD_some] at h1 h2
          have hb2 : ∀ c, (Instr.sliceBound (.int k2 hn) cap c).run P w = .ok hn.toNat w := fun c => run_sliceBound rfl (by omega) (by omega)
          have hb : ∀ c, (Instr.sliceBound (.int k hn) hn.toNat c).run P w = .ok hn.toNat w := fun c => run_sliceBound rfl (by omega) (by omega)
          cases l with
          | none =>
            cases lo with
            | some x => exact hl.elim
            | none => cases isS <;> simp [Instr.sliceBounds, hb, hb2]
          | some ln =>
            cases lo with
            | none => exact hl.elim
            | some x =>
              obtain ⟨k', rfl⟩ := hl
              simp only [Option.getD_some] at h0 h1
              have hb' : ∀ c, (Instr.sliceBound (.int k' ln) hn.toNat c).run P w = .ok ln.toNat w := fun c => run_sliceBound rfl h0 (by omega)
              cases isS <;> simp [Instr.sliceBounds, hb, hb2, hb']

theorem run_sliceAt_slice {T e : TypeId} {i : TypeInfo} (ht : P.underlying T = some (.slice e)) (hi : P.info? e = some i) {a : Option Addr} {len cap : Nat} {lo hi' mx : Option Value} {l h m : Nat}
    (hb : (Instr.sliceBounds true len cap lo hi' mx).run P w = .ok (l, h, m) w) :
    (Instr.sliceAt T (.slice a len cap) lo hi' mx).run P w = .ok (.slice (if m = l then a else a.map (·.add (l * i.size))) (h - l) (m - l)) w := by
  simp [Instr.sliceAt, Instr.slice, run_underlying ht, hb, sizeOf, typeInfo, hi]
theorem run_sliceAt_arr {T e : TypeId} {i : TypeInfo} {n : Nat} (ht : P.underlying T = some (.array n e)) (hi : P.info? e = some i) {a : Addr} {lo hi' mx : Option Value} {l h m : Nat}
    (hb : (Instr.sliceBounds false n n lo hi' mx).run P w = .ok (l, h, m) w) :
    (Instr.sliceAt T (.pointer (some a)) lo hi' mx).run P w = .ok (.slice (some (if m = l then a else a.add (l * i.size))) (h - l) (m - l)) w := by
  simp [Instr.sliceAt, run_underlying ht, hb, sizeOf, typeInfo, hi, Instr.sureAddr]
theorem run_sliceAt_str {T : TypeId} (ht : P.underlying T = some .string) {s : ByteArray} {lo hi' : Option Value} {l h m : Nat}
    (hb : (Instr.sliceBounds false s.size s.size lo hi' none).run P w = .ok (l, h, m) w) :
    (Instr.sliceAt T (.string s) lo hi' none).run P w = .ok (.string (s.extract l h)) w := by
  simp [Instr.sliceAt, Instr.slice, run_underlying ht, hb]

theorem extract_list (s : ByteArray) (l h : Nat) : (s.extract l h).data.toList = (s.data.toList.drop l).take (h - l) := by
  rw [ByteArray.data_extract, Array.toList_extract, List.extract_eq_take_drop]

/-- A part of a readable row. -/
theorem rep_part {F : Nat → Prop} {a : Addr} {sz n c l h : Nat} {cs : List D} (g : Nat → Value) (hsp : a.spot = none) (hF : F a.block) (hc : ∀ (j : Nat), j < n * sz → w.cell? ⟨a.block, a.off + j, none⟩ = some (g j) ∧ (g j).oneCell' = true)
    (hd : ∀ (j : Nat) (d : D), cs[j]? = some d → RepR w F (g j) d) (hlen : cs.length = n * sz) (hl : l ≤ h) (hh : h ≤ n) {p : Addr} (hp : p.spot = none ∧ p.block = a.block ∧ (h = l ∨ p.off = a.off + l * sz)) (hcc : h - l ≤ c) (hm : c ≤ maxLen) :
    RepR w F (.slice (some p) (h - l) c) (.sl sz (h - l) ((cs.drop (l * sz)).take ((h - l) * sz))) ∧ (c = h - l → RepR w F (.slice (some p) (h - l) c) (.slx sz (h - l) ((cs.drop (l * sz)).take ((h - l) * sz)))) := by
  have hmul : l * sz + (h - l) * sz ≤ n * sz := by rw [← Nat.add_mul]; exact Nat.mul_le_mul_right _ (by omega)
  have h1 : ((cs.drop (l * sz)).take ((h - l) * sz)).length = (h - l) * sz := by simp; omega
  by_cases he : h = l
  · subst he
    simp only [Nat.sub_self, Nat.zero_mul, List.take_zero]
    exact ⟨.sl0 hm, fun hc => by subst hc; exact .slx0⟩
  · obtain ⟨p1, p2, p3⟩ := hp
    have p3 := p3.resolve_left he
    have hcell : ∀ (j : Nat), j < (h - l) * sz → w.cell? ⟨p.block, p.off + j, none⟩ = some (g (l * sz + j)) ∧ (g (l * sz + j)).oneCell' = true := fun j hj => by
      rw [p2, p3, Nat.add_assoc]; exact hc _ (by omega)
    have hdd : ∀ (j : Nat) (d : D), ((cs.drop (l * sz)).take ((h - l) * sz))[j]? = some d → RepR w F (g (l * sz + j)) d := fun j d hj => by
      rw [List.getElem?_take] at hj
      split at hj
      · rw [List.getElem?_drop] at hj; exact hd _ d hj
      · cases hj
    refine ⟨.sl (fun j => g (l * sz + j)) p1 (by rw [p2]; exact hF) hcc hm h1 hcell hdd, fun hce => ?_⟩
    rw [hce]
    exact .slx (fun j => g (l * sz + j)) p1 (by rw [p2]; exact hF) (by omega) h1 hcell hdd

theorem slcW_ok (hs : SatC w0 φ S tmps w) {T e : TypeId} {sz : Nat} (hi : (∃ i, P.info? e = some i ∧ i.size = sz) ∧ (tyOf P T = .slice e ∨ ∃ n, tyOf P T = .arr n e) ∨ tyOf P T = .str) {xv : Value} {dx : D} (hx : Rep φ w (FSx φ S.own w) xv dx)
    {lo hi' mx : Option Value} {l h m : Option Int} (hl : BoOk w lo l) (hh : BoOk w hi' h) (hm : BoOk w mx m) {k : D → Prop} (hk : slcW (S := S) (tyOf P T) sz dx l h m k) :
    ∃ v d, (Instr.sliceAt T xv lo hi' mx).run P w = .ok v w ∧ k d ∧ Rep φ w (FSx φ S.own w) v d := by
  rcases hi with ⟨⟨i, hi, rfl⟩, he | ⟨len, he⟩⟩ | he
  · have ht := tyOf_slice he
    rw [he] at hk
    cases dx with
    | sl sz' n cs =>
      obtain ⟨rfl, h0, h1, h2, hk⟩ := hk
      have hmx : ∀ x, m = some x → x = h.getD n ∧ h.isSome = true := fun x hx => by subst hx; exact ⟨hk.1, hk.2.1⟩
      cases hx with | ro hx => cases hx with
      | @sl0 _ c p hcm =>
        have hrun := run_sliceBounds (P := P) (isS := true) (cap := c) hl hh hm h0 h1 h2 (by omega) hmx
        have e1 : (h.getD ((0 : Nat) : Int)).toNat - (l.getD 0).toNat = 0 := by omega
        cases m with
        | none =>
          refine ⟨_, _, run_sliceAt_slice ht hi hrun, hk, .ro ?_⟩
          rw [e1, Nat.zero_mul, List.take_zero]
          exact .sl0 (by simp only [Option.getD_none]; omega)
        | some x =>
          refine ⟨_, _, run_sliceAt_slice ht hi hrun, hk.2.2, .ro ?_⟩
          rw [e1, Nat.zero_mul, List.take_zero]
          have : ((some x).getD (c : Int)).toNat - (l.getD 0).toNat = 0 := by rw [Option.getD_some, hk.1]; exact e1
          rw [this]
          exact .slx0
      | @sl a c _ _ _ g a1 a2 a3 a4 a5 a6 a7 =>
        have hrun := run_sliceBounds (P := P) (isS := true) (cap := c) hl hh hm h0 h1 h2 a3 hmx
        cases m with
        | none =>
          have := rep_part (w := w) (c := (((none : Option Int).getD (c : Int)).toNat) - (l.getD 0).toNat) (l := (l.getD 0).toNat) (h := (h.getD (n : Int)).toNat) g a1 a2 a6 a7 a5 (by omega) (by omega)
            (p := if ((none : Option Int).getD (c : Int)).toNat = (l.getD 0).toNat then a else a.add ((l.getD 0).toNat * i.size)) (by
              simp only [Option.getD_none]
              split
              · exact ⟨a1, rfl, .inl (by omega)⟩
              · rw [addr_add' a1]; exact ⟨rfl, rfl, .inr rfl⟩) (by simp only [Option.getD_none]; omega) (by simp only [Option.getD_none]; omega)
          refine ⟨_, _, run_sliceAt_slice ht hi hrun, hk, .ro ?_⟩
          have e : (if ((none : Option Int).getD (c : Int)).toNat = (l.getD 0).toNat then some a else (some a).map (·.add ((l.getD 0).toNat * i.size))) = some (if ((none : Option Int).getD (c : Int)).toNat = (l.getD 0).toNat then a else a.add ((l.getD 0).toNat * i.size)) := by split <;> rfl
          rw [e]
          exact this.1
        | some x =>
          have := rep_part (w := w) (c := (((some x).getD (c : Int)).toNat) - (l.getD 0).toNat) (l := (l.getD 0).toNat) (h := (h.getD (n : Int)).toNat) g a1 a2 a6 a7 a5 (by omega) (by omega)
            (p := if ((some x).getD (c : Int)).toNat = (l.getD 0).toNat then a else a.add ((l.getD 0).toNat * i.size)) (by
              simp only [Option.getD_some]
              have := hk.1
              split
              · exact ⟨a1, rfl, .inl (by omega)⟩
              · rw [addr_add' a1]; exact ⟨rfl, rfl, .inr rfl⟩) (by have := hk.1; simp only [Option.getD_some]; omega) (by have := hk.1; simp only [Option.getD_some]; omega)
          refine ⟨_, _, run_sliceAt_slice ht hi hrun, hk.2.2, .ro ?_⟩
          have e : (if ((some x).getD (c : Int)).toNat = (l.getD 0).toNat then some a else (some a).map (·.add ((l.getD 0).toNat * i.size))) = some (if ((some x).getD (c : Int)).toNat = (l.getD 0).toNat then a else a.add ((l.getD 0).toNat * i.size)) := by split <;> rfl
          rw [e]
          exact this.2 (by rw [Option.getD_some, hk.1])
    | slx sz' n cs =>
      obtain ⟨rfl, h0, h1, h2, hk⟩ := hk
      have hmx : ∀ x, m = some x → x = h.getD n ∧ h.isSome = true := fun x hx => by subst hx; exact ⟨hk.1, hk.2.1⟩
      cases hx with | ro hx => cases hx with
      | @slx0 _ p =>
        have hrun := run_sliceBounds (P := P) (isS := true) (cap := 0) hl hh hm h0 h1 h2 (by omega) hmx
        have e1 : (h.getD ((0 : Nat) : Int)).toNat - (l.getD 0).toNat = 0 := by omega
        cases m with
        | none =>
          refine ⟨_, _, run_sliceAt_slice ht hi hrun, hk, .ro ?_⟩
          rw [e1, Nat.zero_mul, List.take_zero]
          exact .sl0 (by simp only [Option.getD_none]; omega)
        | some x =>
          refine ⟨_, _, run_sliceAt_slice ht hi hrun, hk.2.2, .ro ?_⟩
          rw [e1, Nat.zero_mul, List.take_zero]
          have : ((some x).getD ((0 : Nat) : Int)).toNat - (l.getD 0).toNat = 0 := by rw [Option.getD_some, hk.1]; exact e1
          rw [this]
          exact .slx0
      | @slx a _ _ _ g a1 a2 a4 a5 a6 a7 =>
        have hrun := run_sliceBounds (P := P) (isS := true) (cap := n) hl hh hm h0 h1 h2 (Nat.le_refl _) hmx
        cases m with
        | none =>
          have := rep_part (w := w) (c := (((none : Option Int).getD (n : Int)).toNat) - (l.getD 0).toNat) (l := (l.getD 0).toNat) (h := (h.getD (n : Int)).toNat) g a1 a2 a6 a7 a5 (by omega) (by omega)
            (p := if ((none : Option Int).getD (n : Int)).toNat = (l.getD 0).toNat then a else a.add ((l.getD 0).toNat * i.size)) (by
              simp only [Option.getD_none]
              split
              · exact ⟨a1, rfl, .inl (by omega)⟩
              · rw [addr_add' a1]; exact ⟨rfl, rfl, .inr rfl⟩) (by simp only [Option.getD_none]; omega) (by simp only [Option.getD_none]; omega)
          refine ⟨_, _, run_sliceAt_slice ht hi hrun, hk, .ro ?_⟩
          have e : (if ((none : Option Int).getD (n : Int)).toNat = (l.getD 0).toNat then some a else (some a).map (·.add ((l.getD 0).toNat * i.size))) = some (if ((none : Option Int).getD (n : Int)).toNat = (l.getD 0).toNat then a else a.add ((l.getD 0).toNat * i.size)) := by split <;> rfl
          rw [e]
          exact this.1
        | some x =>
          have := rep_part (w := w) (c := (((some x).getD (n : Int)).toNat) - (l.getD 0).toNat) (l := (l.getD 0).toNat) (h := (h.getD (n : Int)).toNat) g a1 a2 a6 a7 a5 (by omega) (by omega)
            (p := if ((some x).getD (n : Int)).toNat = (l.getD 0).toNat then a else a.add ((l.getD 0).toNat * i.size)) (by
              simp only [Option.getD_some]
              have := hk.1
              split
              · exact ⟨a1, rfl, .inl (by omega)⟩
              · rw [addr_add' a1]; exact ⟨rfl, rfl, .inr rfl⟩) (by have := hk.1; simp only [Option.getD_some]; omega) (by have := hk.1; simp only [Option.getD_some]; omega)
          refine ⟨_, _, run_sliceAt_slice ht hi hrun, hk.2.2, .ro ?_⟩
          have e : (if ((some x).getD (n : Int)).toNat = (l.getD 0).toNat then some a else (some a).map (·.add ((l.getD 0).toNat * i.size))) = some (if ((some x).getD (n : Int)).toNat = (l.getD 0).toNat then a else a.add ((l.getD 0).toNat * i.size)) := by split <;> rfl
          rw [e]
          exact this.2 (by rw [Option.getD_some, hk.1])
    | osl id sz' n =>
      obtain ⟨rfl, rfl, h0, h1, h2, hk⟩ := hk
      cases hx with
      | ro hx => cases hx
      | @osl0 _ _ p hb =>
        have hrun := run_sliceBounds (P := P) (isS := true) (cap := 0) hl hh hm h0 h1 h2 (by omega) (fun x hx => by cases hx)
        have e1 : (h.getD ((0 : Nat) : Int)).toNat - (l.getD 0).toNat = 0 := by omega
        refine ⟨_, _, run_sliceAt_slice ht hi hrun, hk, ?_⟩
        rw [e1]
        exact .osw0 (by simp only [Option.getD_none]; omega)
      | @osl _ _ _ c b hb a1 a2 a3 =>
        have hrun := run_sliceBounds (P := P) (isS := true) (cap := c) hl hh hm h0 h1 h2 a2 (fun x hx => by cases hx)
        refine ⟨_, _, run_sliceAt_slice ht hi hrun, hk, ?_⟩
        simp only [Option.getD_none, Int.toNat_natCast]
        by_cases hc : c = (l.getD 0).toNat
        · have e1 : (h.getD (n : Int)).toNat - (l.getD 0).toNat = 0 := by omega
          rw [if_pos hc, e1]; exact .osw0 (by omega)
        · rw [if_neg hc, Option.map_some, addr_add, Nat.zero_add]
          refine .osw hb (by omega) (by omega) ?_
          rw [← a1, ← Nat.add_mul]; exact Nat.mul_le_mul_right _ (by omega)
    | osw id off sz' n =>
      obtain ⟨rfl, rfl, h0, h1, h2, hk⟩ := hk
      cases hx with
      | ro hx => cases hx
      | @osw0 _ _ _ c p hcm =>
        have hrun := run_sliceBounds (P := P) (isS := true) (cap := c) hl hh hm h0 h1 h2 (by omega) (fun x hx => by cases hx)
        have e1 : (h.getD ((0 : Nat) : Int)).toNat - (l.getD 0).toNat = 0 := by omega
        refine ⟨_, _, run_sliceAt_slice ht hi hrun, hk, ?_⟩
        rw [e1]
        exact .osw0 (by simp only [Option.getD_none]; omega)
      | @osw _ _ _ _ c b hb a2 a3 a1 =>
        have hrun := run_sliceBounds (P := P) (isS := true) (cap := c) hl hh hm h0 h1 h2 a2 (fun x hx => by cases hx)
        refine ⟨_, _, run_sliceAt_slice ht hi hrun, hk, ?_⟩
        simp only [Option.getD_none, Int.toNat_natCast]
        by_cases hc : c = (l.getD 0).toNat
        · have e1 : (h.getD (n : Int)).toNat - (l.getD 0).toNat = 0 := by omega
          rw [if_pos hc, e1]; exact .osw0 (by omega)
        · rw [if_neg hc, Option.map_some, addr_add]
          refine .osw hb (by omega) (by omega) ?_
          have : (l.getD 0).toNat * i.size + (c - (l.getD 0).toNat) * i.size ≤ c * i.size := by rw [← Nat.add_mul]; exact Nat.mul_le_mul_right _ (by omega)
          omega
    | _ => exact hk.elim
  · have ht := tyOf_arr he
    rw [he] at hk
    cases dx with
    | ptr id off =>
      obtain ⟨rfl, h0, h1, h2, hk⟩ := hk
      obtain ⟨c, hc, hfit, hmx, hk⟩ := lkoW_ok hk
      have hrun := run_sliceBounds (P := P) (isS := false) (cap := len) hl hh hm h0 h1 h2 (Nat.le_refl _) (fun x hx => by cases hx)
      cases hx with
      | ro hx => cases hx
      | @ptr _ _ b hb =>
        refine ⟨_, _, run_sliceAt_arr ht hi hrun, hk, ?_⟩
        obtain ⟨arr, Tb, fz, q1, q2, q3, _⟩ := own_cells hs hc hb
        simp only [Option.getD_none, Int.toNat_natCast]
        by_cases hcl : len = (l.getD 0).toNat
        · have e1 : (h.getD (len : Int)).toNat - (l.getD 0).toNat = 0 := by omega
          rw [if_pos hcl, e1]; exact .osw0 (by omega)
        · rw [if_neg hcl, addr_add]
          refine .osw hb (by omega) (by omega) ?_
          have : (l.getD 0).toNat * i.size + (len - (l.getD 0).toNat) * i.size ≤ len * i.size := by rw [← Nat.add_mul]; exact Nat.mul_le_mul_right _ (by omega)
          omega
    | rop cs off =>
      obtain ⟨rfl, h0, h1, h2, hfit, hmx, hk⟩ := hk
      have hrun := run_sliceBounds (P := P) (isS := false) (cap := len) hl hh hm h0 h1 h2 (Nat.le_refl _) (fun x hx => by cases hx)
      cases hx with | ro hx => cases hx with
      | @rop b base _ _ g hb hc hd =>
        refine ⟨_, _, run_sliceAt_arr ht hi hrun, hk, .ro ?_⟩
        simp only [Option.getD_none, Int.toNat_natCast]
        have := (rep_part (w := w) (F := FSx φ S.own w) (a := ⟨b, base + off, none⟩) (n := len) (sz := i.size) (c := len - (l.getD 0).toNat) (l := (l.getD 0).toNat) (h := (h.getD (len : Int)).toNat) (cs := (cs.drop off).take (len * i.size)) (fun j => g (off + j)) rfl hb
          (fun j hj => by have := hc (off + j) (by omega); rwa [show base + (off + j) = base + off + j by omega] at this)
          (fun j d hj => by
            rw [List.getElem?_take] at hj
            split at hj
            · rw [List.getElem?_drop] at hj; exact hd _ d hj
            · cases hj) (by simp; omega) (by omega) (by omega)
          (p := if len = (l.getD 0).toNat then ⟨b, base + off, none⟩ else (⟨b, base + off, none⟩ : Addr).add ((l.getD 0).toNat * i.size)) (by
            split
            · exact ⟨rfl, rfl, .inl (by omega)⟩
            · rw [addr_add]; exact ⟨rfl, rfl, .inr rfl⟩) (by omega) (by omega)).1
        have e : (((cs.drop off).take (len * i.size)).drop ((l.getD 0).toNat * i.size)).take (((h.getD (len : Int)).toNat - (l.getD 0).toNat) * i.size) = (cs.drop (off + (l.getD 0).toNat * i.size)).take (((h.getD (len : Int)).toNat - (l.getD 0).toNat) * i.size) := by
          rw [List.drop_take, List.take_take, List.drop_drop, Nat.min_eq_left]
          have : (l.getD 0).toNat * i.size + ((h.getD (len : Int)).toNat - (l.getD 0).toNat) * i.size ≤ len * i.size := by rw [← Nat.add_mul]; exact Nat.mul_le_mul_right _ (by omega)
          omega
        rw [e] at this
        exact this
    | _ => exact hk.elim
  · have ht := tyOf_str he
    rw [he] at hk
    cases dx with
    | str s =>
      obtain ⟨rfl, h0, h1, h2, hk⟩ := hk
      obtain ⟨b, rfl, hb, hlm⟩ := hx.str_inv
      cases mx with
      | some x => exact hm.elim
      | none =>
        have hsz : b.size = s.length := by rw [ba_size, hb]
        have hrun := run_sliceBounds (P := P) (w := w) (isS := false) (len := b.size) (cap := b.size) (m := none) hl hh hm h0 (by rw [hsz]; exact h1) (by rw [hsz]; exact h2) (Nat.le_refl _) (fun x hx => by cases hx)
        refine ⟨_, _, run_sliceAt_str ht hrun, hk, .ro (.str ?_ ?_)⟩
        · rw [extract_list, hb, hsz]
        · rw [List.length_take]; have := List.length_drop (i := (l.getD 0).toNat) (l := s); omega
    | _ => exact hk.elim
end

#print axioms slcW_ok
end Go.Abs
end
