/-
  AN ABSTRACT WALK, eighth text: places and slices; conversions; built values; make; copy.
-/
import Derived.Test.YtdjfnipabekkaaaAbs7
namespace Go.Abs
open Go.RowKit (Below)

section
variable {P : Program} {w0 : Bas} {w : World} {φ : Loc} {S : St} {tmps : Array Value}

theorem left_same (hs : SatC w0 φ S tmps w) {k : D → St → Prop} {v : Value} {d : D} (hk : k d S) (hr : Rep φ w (FSx φ S.own w) v d) : Left w0 S tmps k v w := ⟨φ, d, S, hk, hs, hr, rfl⟩

/-! ### A place in a row -/
def ixW (ty : TY) (sz : Nat) (dx di : D) (k : D → Prop) : Prop :=
  match di with
  | .int _ n =>
    match ty with
    | .slice _ =>
      match dx with
      | .sl sz' m cs | .slx sz' m cs => sz' = sz ∧ 0 ≤ n ∧ n < m ∧ k (.rop cs (n.toNat * sz))
      | .osl id sz' m => sz' = sz ∧ 0 ≤ n ∧ n < m ∧ k (.ptr id (n.toNat * sz))
      | .osw id off sz' m => sz' = sz ∧ 0 ≤ n ∧ n < m ∧ k (.ptr id (off + n.toNat * sz))
      | _ => False
    | .arr len _ =>
      match dx with
      | .ptr id off => 0 ≤ n ∧ n < len ∧ k (.ptr id (off + n.toNat * sz))
      | .rop cs off => 0 ≤ n ∧ n < len ∧ k (.rop cs (off + n.toNat * sz))
      | _ => False
    | _ => False
  | _ => False

theorem run_indexAt_slice {T e : TypeId} {i : TypeInfo} (ht : P.underlying T = some (.slice e)) (hi : P.info? e = some i) {a : Addr} {m c : Nat} {kk : IntKind} {n : Int} (h0 : 0 ≤ n) (h1 : n < m) :
    (Instr.indexAt T (.slice (some a) m c) (.int kk n)).run P w = .ok (.pointer (some (a.add (n.toNat * i.size)))) w := by
  simp [Instr.indexAt, asIntOf, run_underlying ht, h0, h1, sizeOf, typeInfo, hi]
theorem run_indexAt_arr {T e : TypeId} {i : TypeInfo} {len : Nat} (ht : P.underlying T = some (.array len e)) (hi : P.info? e = some i) {a : Addr} {kk : IntKind} {n : Int} (h0 : 0 ≤ n) (h1 : n < len) :
    (Instr.indexAt T (.pointer (some a)) (.int kk n)).run P w = .ok (.pointer (some (a.add (n.toNat * i.size)))) w := by
  simp [Instr.indexAt, asIntOf, run_underlying ht, h0, h1, sizeOf, typeInfo, hi, Instr.sureAddr]

theorem ixW_ok (hs : SatC w0 φ S tmps w) {T e : TypeId} {i : TypeInfo} (hi : P.info? e = some i) (he : (∃ n, tyOf P T = .arr n e) ∨ tyOf P T = .slice e) {xv iv : Value} {dx di : D} (hx : Rep φ w (FSx φ S.own w) xv dx) (hiv : Rep φ w (FSx φ S.own w) iv di) {k : D → Prop}
    (h : ixW (tyOf P T) i.size dx di k) : ∃ v d, (Instr.indexAt T xv iv).run P w = .ok v w ∧ k d ∧ Rep φ w (FSx φ S.own w) v d := by
  unfold ixW at h
  split at h
  case h_2 => exact h.elim
  case h_1 kk n =>
  obtain ⟨rfl, _⟩ := hiv.int_inv
  rcases he with ⟨len, he⟩ | he
  · rw [he] at h
    simp only at h
    have ht := tyOf_arr he
    split at h
    · obtain ⟨h0, h1, hk⟩ := h
      rename_i id off
      cases hx with
      | ro hx => cases hx
      | ptr hb => exact ⟨_, _, run_indexAt_arr ht hi h0 h1, hk, by rw [addr_add]; exact .ptr hb⟩
    · obtain ⟨h0, h1, hk⟩ := h
      cases hx with
      | ro hx => cases hx with
        | rop g a b c => exact ⟨_, _, run_indexAt_arr ht hi h0 h1, hk, by rw [addr_add, Nat.add_assoc]; exact .ro (.rop g a b c)⟩
    · exact h.elim
  · rw [he] at h
    simp only at h
    have ht := tyOf_slice he
    split at h
    · obtain ⟨rfl, h0, h1, hk⟩ := h
      cases hx with
      | ro hx => cases hx with
        | sl0 => omega
        | sl g a b c d e' f j => exact ⟨_, _, run_indexAt_slice ht hi h0 h1, hk, by rw [addr_add' a]; exact .ro (.rop g b (fun j hj => f j (by omega)) j)⟩
    · obtain ⟨rfl, h0, h1, hk⟩ := h
      cases hx with
      | ro hx => cases hx with
        | slx0 => omega
        | slx g a b c d e' f => exact ⟨_, _, run_indexAt_slice ht hi h0 h1, hk, by rw [addr_add' a]; exact .ro (.rop g b (fun j hj => e' j (by omega)) f)⟩
    · obtain ⟨rfl, h0, h1, hk⟩ := h
      cases hx with
      | ro hx => cases hx
      | osl0 hb => omega
      | osl hb a b c => exact ⟨_, _, run_indexAt_slice ht hi h0 h1, hk, by rw [addr_add, Nat.zero_add]; exact .ptr hb⟩
    · obtain ⟨rfl, h0, h1, hk⟩ := h
      cases hx with
      | ro hx => cases hx
      | osw0 hb => omega
      | osw hb a b c => exact ⟨_, _, run_indexAt_slice ht hi h0 h1, hk, by rw [addr_add]; exact .ptr hb⟩
    · exact h.elim

/-! ### A field -/
def fldW (P : Program) (t : TypeId) (f : Nat) (k : Nat → TypeId → Prop) : Prop :=
  match tyOf P t with
  | .struct fs => match fs[f]? with | some (o, ft) => k o ft | none => False
  | _ => False
theorem fldW_ok {t : TypeId} {f : Nat} {k : Nat → TypeId → Prop} (h : fldW P t f k) : ∃ (a : Array Field) (x : Field), P.underlying t = some (.struct a) ∧ a[f]? = some x ∧ k x.offset x.type := by
  unfold fldW at h
  split at h
  · rename_i fs e
    obtain ⟨a, ha, hfs⟩ := tyOf_struct e
    split at h
    · rename_i o ft hf
      rw [hfs] at hf
      simp only [List.getElem?_map, Array.getElem?_toList] at hf
      cases hx : a[f]? with
      | none => simp [hx] at hf
      | some x =>
        simp [hx] at hf
        obtain ⟨rfl, rfl⟩ := hf
        exact ⟨a, x, ha, hx, h⟩
    · exact h.elim
  · exact h.elim

def faW (dx : D) (o : Nat) (k : D → Prop) : Prop :=
  match dx with
  | .ptr id off => k (.ptr id (off + o))
  | .rop cs off => k (.rop cs (off + o))
  | _ => False
theorem faW_ok (hs : SatC w0 φ S tmps w) {T : TypeId} {f : Nat} {xv : Value} {dx : D} (hx : Rep φ w (FSx φ S.own w) xv dx) {k : D → Prop} (h : fldW P T f fun o ft => szW P ft fun n => n ≠ 0 ∧ faW dx o k) :
    ∃ v d, (Instr.fieldAt T xv f).run P w = .ok v w ∧ k d ∧ Rep φ w (FSx φ S.own w) v d := by
  obtain ⟨a, x, ha, hx', h⟩ := fldW_ok h
  obtain ⟨i, hi, hn, h⟩ := szW_ok h
  unfold faW at h
  split at h
  · cases hx with
    | ro hx => cases hx
    | ptr hb => exact ⟨_, _, by simp [Instr.fieldAt, run_underlying ha, hx', Instr.sureAddr, fieldPlace, sizeOf, typeInfo, hi, hn]; rfl, h, by rw [addr_add]; exact .ptr hb⟩
  · cases hx with
    | ro hx => cases hx with
      | rop g b c d => exact ⟨_, _, by simp [Instr.fieldAt, run_underlying ha, hx', Instr.sureAddr, fieldPlace, sizeOf, typeInfo, hi, hn]; rfl, h, by rw [addr_add, Nat.add_assoc]; exact .ro (.rop g b c d)⟩
  · exact h.elim

theorem run_part {t : TypeId} {i : TypeInfo} {ag : Bool} (hag : isAg (tyOf P t) = some ag) (hi : P.info? t = some i) {cs : Array Value} {o : Nat} {v : Value} (hv : ag = false → cs[o]? = some v) :
    (part t cs o).run P w = .ok (if ag = true then .agg (cs.extract o (o + i.size)) else v) w := by
  unfold part
  rw [Sem.run_bind, run_isAgg hag, Result.andThen_ok]
  cases ag with
  | true => simp [sizeOf, typeInfo, hi]
  | false => simp [hv rfl]

def fvW (dx : D) (ag : Bool) (sz o : Nat) (k : D → Prop) : Prop :=
  match dx with
  | .agg cs => rdW ag sz cs o .agg k
  | .oag cs => rdW ag sz cs o .oag k
  | _ => False

/-- A part of a struct or an array that is a value. -/
theorem part_ok {t : TypeId} {i : TypeInfo} {ag : Bool} (hag : isAg (tyOf P t) = some ag) (hi : P.info? t = some i) {xv : Value} {dx : D} {o : Nat} (hx : Rep φ w (FSx φ S.own w) xv dx) {k : D → Prop} (h : fvW dx ag i.size o k) :
    ∃ cs v d, xv = .agg cs ∧ (part t cs o).run P w = .ok v w ∧ k d ∧ Rep φ w (FSx φ S.own w) v d := by
  have core : ∀ (vs : Array Value) (ds : List D) (mk : List D → D), vs.size = ds.length → (∀ (i : Nat) (v : Value), vs[i]? = some v → v.oneCell' = true) → (∀ (i : Nat) (v : Value) (d : D), vs[i]? = some v → ds[i]? = some d → Rep φ w (FSx φ S.own w) v d) →
      (∀ (us : Array Value) (es : List D), us.size = es.length → (∀ (i : Nat) (v : Value), us[i]? = some v → v.oneCell' = true) → (∀ (i : Nat) (v : Value) (d : D), us[i]? = some v → es[i]? = some d → ∃ j : Nat, vs[j]? = some v ∧ ds[j]? = some d) → Rep φ w (FSx φ S.own w) (.agg us) (mk es)) →
      rdW ag i.size ds o mk k → ∃ v d, (part t vs o).run P w = .ok v w ∧ k d ∧ Rep φ w (FSx φ S.own w) v d := by
    intro vs ds mk hl h1 hr hmk h
    cases ag with
    | true =>
      obtain ⟨hle, hk⟩ := h
      refine ⟨_, _, run_part (v := undef) hag hi (fun h => by cases h), hk, ?_⟩
      simp only [if_true]
      refine hmk _ _ (by simp; omega) (fun j v hv => ?_) (fun j v d hv hd => ?_)
      · rw [Array.getElem?_extract] at hv
        split at hv
        · exact h1 _ v hv
        · cases hv
      · rw [Array.getElem?_extract] at hv
        rw [List.getElem?_take] at hd
        split at hv
        · split at hd
          · exact ⟨o + j, hv, by rw [List.getElem?_drop] at hd; exact hd⟩
          · cases hd
        · cases hv
    | false =>
      obtain ⟨d, hd, hk⟩ := nthW_ok h
      have hlt : o < vs.size := by rw [hl]; exact (List.getElem?_eq_some_iff.1 hd).1
      exact ⟨_, d, run_part hag hi (fun _ => Array.getElem?_eq_getElem hlt), hk, hr o _ d (Array.getElem?_eq_getElem hlt) hd⟩
  unfold fvW at h
  split at h
  · rename_i cs
    cases hx with
    | ro hx => cases hx with
      | @agg vs _ a b c =>
        obtain ⟨v, d, e1, e2, e3⟩ := core vs cs .agg a b (fun i v d hv hd => .ro (c i v d hv hd)) (fun us es l1 l2 l3 => .ro (.agg l1 l2 fun i v d hv hd => by obtain ⟨j, a1, a2⟩ := l3 i v d hv hd; exact c j v d a1 a2)) h
        exact ⟨vs, v, d, rfl, e1, e2, e3⟩
  · rename_i cs
    cases hx with
    | ro hx => cases hx
    | @oag vs _ a b c =>
      obtain ⟨v, d, e1, e2, e3⟩ := core vs cs .oag a b c (fun us es l1 l2 l3 => .oag l1 l2 fun i v d hv hd => by obtain ⟨j, a1, a2⟩ := l3 i v d hv hd; exact c j v d a1 a2) h
      exact ⟨vs, v, d, rfl, e1, e2, e3⟩
  · exact h.elim

theorem fieldW_ok {T : TypeId} {f : Nat} {xv : Value} {dx : D} (hx : Rep φ w (FSx φ S.own w) xv dx) {k : D → Prop} (h : fldW P T f fun o ft => szW P ft fun n => ∃ ag, isAg (tyOf P ft) = some ag ∧ fvW dx ag n o k) :
    ∃ v d, (Instr.field T xv f).run P w = .ok v w ∧ k d ∧ Rep φ w (FSx φ S.own w) v d := by
  obtain ⟨a, x, ha, hx', h⟩ := fldW_ok h
  obtain ⟨i, hi, ag, hag, h⟩ := szW_ok h
  obtain ⟨cs, v, d, rfl, hrun, hk, hr⟩ := part_ok hag hi hx h
  exact ⟨v, d, by simp [Instr.field, run_underlying ha, hx', asAgg, hrun], hk, hr⟩

/-! ### A value of an array, a string, at an index -/
def inxW (ty : TY) (ag : Option Bool) (sz : Nat) (dx di : D) (k : D → Prop) : Prop :=
  match di with
  | .int _ n =>
    match ty, dx with
    | .str, .str s => 0 ≤ n ∧ ∃ h : n.toNat < s.length, k (.int .u8 s[n.toNat].toNat)
    | .arr len _, dx => 0 ≤ n ∧ n < len ∧ ∃ a, ag = some a ∧ fvW dx a sz (n.toNat * sz) k
    | _, _ => False
  | _ => False
theorem inx_str_ok {T : TypeId} (ht : tyOf P T = .str) {xv iv : Value} {s : List UInt8} {di : D} (hx : Rep φ w (FSx φ S.own w) xv (.str s)) (hiv : Rep φ w (FSx φ S.own w) iv di) {k : D → Prop} {kk : IntKind} {n : Int} (hdi : di = .int kk n)
    (h : 0 ≤ n ∧ ∃ h : n.toNat < s.length, k (.int .u8 s[n.toNat].toNat)) : ∃ v d, (Instr.index T xv iv).run P w = .ok v w ∧ k d ∧ Rep φ w (FSx φ S.own w) v d := by
  subst hdi
  obtain ⟨rfl, _⟩ := hiv.int_inv
  obtain ⟨b, rfl, hb, hl⟩ := hx.str_inv
  obtain ⟨h0, h1, hk⟩ := h
  subst hb
  have hg : b[n.toNat]? = some (b.data.toList[n.toNat]) := by
    have hsz : n.toNat < b.size := by rw [ba_size]; exact h1
    rw [getElem?_pos b n.toNat hsz]
    rfl
  refine ⟨.int .u8 (b.data.toList[n.toNat].toNat), _, ?_, hk, .ro (.int ?_ ?_)⟩
  · simp [Instr.index, asIntOf, run_underlying (tyOf_str ht), h0, hg]
  · show (0 : Int) ≤ _; omega
  · have := (b.data.toList[n.toNat]).toNat_lt
    show _ ≤ (255 : Int); omega
theorem inx_arr_ok {T e : TypeId} {len : Nat} (ht : tyOf P T = .arr len e) {i : TypeInfo} (hi : P.info? e = some i) {xv iv : Value} {dx di : D} (hx : Rep φ w (FSx φ S.own w) xv dx) (hiv : Rep φ w (FSx φ S.own w) iv di) {k : D → Prop} {kk : IntKind} {n : Int} (hdi : di = .int kk n)
    (h : 0 ≤ n ∧ n < len ∧ ∃ a, isAg (tyOf P e) = some a ∧ fvW dx a i.size (n.toNat * i.size) k) : ∃ v d, (Instr.index T xv iv).run P w = .ok v w ∧ k d ∧ Rep φ w (FSx φ S.own w) v d := by
  subst hdi
  obtain ⟨rfl, _⟩ := hiv.int_inv
  obtain ⟨h0, h1, ag, hag, h⟩ := h
  obtain ⟨cs, v, d, rfl, hrun, hk, hr⟩ := part_ok hag hi hx h
  exact ⟨v, d, by simp [Instr.index, asIntOf, run_underlying (tyOf_arr ht), h0, h1, sizeOf, typeInfo, hi, hrun], hk, hr⟩
end

#print axioms ixW_ok
#print axioms fieldW_ok
#print axioms inx_arr_ok
end Go.Abs
