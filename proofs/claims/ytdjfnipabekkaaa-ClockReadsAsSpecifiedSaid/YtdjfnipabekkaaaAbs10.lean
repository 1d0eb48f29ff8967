/-
  AN ABSTRACT WALK, tenth text: new variables; stores; built values; conversions; make; copy; len, min, max.
-/
import Derived.Test.YtdjfnipabekkaaaAbs9
namespace Go.Abs
open Go.RowKit (Below)

section
variable {P : Program} {w0 : Bas} {w : World} {φ : Loc} {S : St} {tmps : Array Value}

/-! ### New variables -/
theorem newW_ok (hs : SatC w0 φ S tmps w) {cs : List D} {arr : Array Value} {T : TypeId} {fz : Nat × Nat} (hfz : ∀ o, o < arr.size → ¬ (fz.1 ≤ o ∧ o < fz.2)) (hl : cs.length ≤ arr.size)
    (hr : ∀ (i : Nat) (v : Value) (d : D), arr[i]? = some v → cs[i]? = some d → Rep φ w (FSx φ S.own w) v d ∧ v.oneCell' = true ∧ mn S.nx d = false) {k : St → Prop} (h : newW S cs k) :
    ∃ φ' S', k S' ∧ SatC w0 φ' S' tmps (w.alloc (.cells arr T fz)) ∧ S'.n = S.n ∧ (φ' S.nx) = (some w.heap.size, arr.size) := by
  obtain ⟨hnm, hk⟩ := nmW_ok h
  exact ⟨_, _, hk, hs.new arr T fz cs hfz hl hr hnm, rfl, upd_same _ _ _⟩

theorem run_alloc {t : TypeId} {i : TypeInfo} {v : Value} (hi : P.info? t = some i) (hz : i.zero = some v) : (Instr.alloc t true (.tuple #[])).run P w = .ok (.pointer (some ⟨w.heap.size, 0, none⟩)) (w.alloc (.cells v.cells t)) := by
  simp [Instr.alloc, zeroValue, typeInfo, hi, hz, newVar, newRow]

theorem allocW_ok (hs : SatC w0 φ S tmps w) {t : TypeId} {k : D → St → Prop} (h : zeroW P t fun cs => newW S cs fun S' => k (.ptr S.nx 0) S') :
    ∃ v w', (Instr.alloc t true (.tuple #[])).run P w = .ok v w' ∧ Left w0 S tmps k v w' := by
  obtain ⟨i, v, hi, hz, h1, h⟩ := zeroW_ok h
  obtain ⟨φ', S', hk, hs', hn, hl⟩ := newW_ok hs (arr := v.cells) (T := t) (fz := (0, 0)) (fun o _ => by simp) (by simp) (fun j x d hx hd => by
    simp only [List.getElem?_map, Array.getElem?_toList, hx, Option.map_some, Option.some.injEq] at hd
    subst hd
    have := Array.all_eq_true.1 h1
    obtain ⟨hj, rfl⟩ := Array.getElem?_eq_some_iff.1 hx
    exact ⟨.ro (dS_ok w _ _), this j hj, mn_of_repR (dS_ok w (FSx φ S.own w) _) _⟩) h
  exact ⟨_, _, run_alloc hi hz, φ', _, S', hk, hs', .ptr (by rw [hl]), hn⟩

/-- The cells that a value takes. -/
def isCell : D → Bool
  | .any | .agg _ | .tup _ | .oag _ => false
  | _ => true
def clW (d : D) (k : List D → Prop) : Prop :=
  match d with
  | .agg cs | .oag cs => k cs
  | .any | .tup _ => False
  | d => k [d]
theorem clW_ok {F : Nat → Prop} {v : Value} {d : D} {k : List D → Prop} (hr : Rep φ w F v d) (h : clW d k) : ∃ cs, k cs ∧ v.cells.size = cs.length ∧ ∀ (i : Nat) (x : Value) (e : D), v.cells[i]? = some x → cs[i]? = some e → Rep φ w F x e ∧ x.oneCell' = true := by
  have one : ∀ d, (∀ (i : Nat) (x : Value) (e : D), v.cells[i]? = some x → [d][i]? = some e → Rep φ w F x e ∧ x.oneCell' = true) ∧ v.cells.size = 1 → k [d] → ∃ cs, k cs ∧ v.cells.size = cs.length ∧ ∀ (i : Nat) (x : Value) (e : D), v.cells[i]? = some x → cs[i]? = some e → Rep φ w F x e ∧ x.oneCell' = true :=
    fun d hd hk => ⟨[d], hk, by simpa using hd.2, hd.1⟩
  have sing : ∀ (v : Value) (d : D), v.cells = #[v] → v.oneCell' = true → Rep φ w F v d → (∀ (i : Nat) (x : Value) (e : D), v.cells[i]? = some x → [d][i]? = some e → Rep φ w F x e ∧ x.oneCell' = true) ∧ v.cells.size = 1 := by
    intro v d hv h1 hr
    rw [hv]
    refine ⟨fun i x e hx he => ?_, rfl⟩
    cases i with
    | zero => simp at hx he; subst hx; subst he; exact ⟨hr, h1⟩
    | succ i => simp at he
  cases hr with
  | ro h' =>
    cases h' with
    | any => exact h.elim
    | tup => exact h.elim
    | agg a b c => exact ⟨_, h, a, fun i x e hx he => ⟨.ro (c i x e hx he), b i x hx⟩⟩
    | int a b => exact one _ (sing _ _ rfl rfl (.ro (.int a b))) h
    | bool => exact one _ (sing _ _ rfl rfl (.ro .bool)) h
    | str a b => exact one _ (sing _ _ rfl rfl (.ro (.str a b))) h
    | nils => exact one _ (sing _ _ rfl rfl (.ro .nils)) h
    | sl0 a => exact one _ (sing _ _ rfl rfl (.ro (.sl0 a))) h
    | sl g a b c d e f i => exact one _ (sing _ _ rfl rfl (.ro (.sl g a b c d e f i))) h
    | slx0 => exact one _ (sing _ _ rfl rfl (.ro .slx0)) h
    | slx g a b c d e f => exact one _ (sing _ _ rfl rfl (.ro (.slx g a b c d e f))) h
    | rop g a b c => exact one _ (sing _ _ rfl rfl (.ro (.rop g a b c))) h
    | fn a b => exact one _ (sing _ _ rfl rfl (.ro (.fn a b))) h
    | yld => exact one _ (sing _ _ rfl rfl (.ro .yld)) h
  | ptr a => exact one _ (sing _ _ rfl rfl (.ptr a)) h
  | osl0 a => exact one _ (sing _ _ rfl rfl (.osl0 a)) h
  | osl a b c d => exact one _ (sing _ _ rfl rfl (.osl a b c d)) h
  | osw0 a => exact one _ (sing _ _ rfl rfl (.osw0 a)) h
  | osw a b c d => exact one _ (sing _ _ rfl rfl (.osw a b c d)) h
  | oag a b c => exact ⟨_, h, a, fun i x e hx he => ⟨c i x e hx he, b i x hx⟩⟩
  | ofn a b => exact one _ (sing _ _ rfl rfl (.ofn a b)) h

theorem boxW_ok (hs : SatC w0 φ S tmps w) {t : TypeId} {xv : Value} {d : D} (hx : Rep φ w (FSx φ S.own w) xv d) {k : D → St → Prop} (h : clW d fun cs => nmC S.nx cs ∧ newW S cs fun S' => k (.ptr S.nx 0) S') :
    ∃ v w', (Instr.box t xv).run P w = .ok v w' ∧ Left w0 S tmps k v w' := by
  obtain ⟨cs, ⟨hnc, h⟩, hl, hr⟩ := clW_ok hx h
  obtain ⟨φ', S', hk, hs', hn, hlo⟩ := newW_ok hs (arr := xv.cells) (T := t) (fz := (0, 0)) (fun o _ => by simp) (by omega) (fun j x d hx hd => ⟨(hr j x d hx hd).1, (hr j x d hx hd).2, hnc d (List.mem_of_getElem? hd)⟩) h
  exact ⟨.pointer (some ⟨w.heap.size, 0, none⟩), w.alloc (.cells xv.cells t), by simp [Instr.box, newVar, newRow], φ', _, S', hk, hs', .ptr (by rw [hlo]), hn⟩

/-! ### Stores -/
def splW (c : List D) (off : Nat) (ds : List D) (k : List D → Prop) : Prop := k (splD c off ds)
def storeW (S : St) (p : D) (ds : List D) (k : St → Prop) : Prop :=
  match p with
  | .ptr id off => lkoW id S.own fun c => off + ds.length ≤ c.length ∧ splW c off ds fun c' => soW id c' S.own fun own' => k ⟨S.n, S.nx, S.env, own'⟩
  | _ => False
theorem storeW_ok (hs : SatC w0 φ S tmps w) {t : TypeId} {i : TypeInfo} (hi : P.info? t = some i) {pv xv : Value} {p d : D} (hp : Rep φ w (FSx φ S.own w) pv p) (hx : Rep φ w (FSx φ S.own w) xv d) {k : D → St → Prop}
    (h : clW d fun ds => ds.length = i.size ∧ storeW S p ds fun S' => k .any S') :
    ∃ w', (Instr.storeAt t pv xv).run P w = .ok () w' ∧ ∀ v, Left w0 S tmps k v w' := by
  obtain ⟨ds, ⟨hsz, h⟩, hl, hr⟩ := clW_ok hx h
  cases p with
  | ptr id off =>
    obtain ⟨c, hc, hfit, hk⟩ := lkoW_ok h
    cases hp with
    | ro hp => cases hp
    | @ptr _ _ b hb =>
      obtain ⟨w', hrun, hs', hrep⟩ := hs.store (P := P) (vs := xv.cells.toList) hc hb (by simpa using hl) hfit (fun i v d hv hd => hr i v d (by simpa using hv) hd)
      refine ⟨w', ?_, fun v => ⟨φ, _, _, hk, hs', .ro (.any v), rfl⟩⟩
      simp [Instr.storeAt, Instr.sureAddr, storeVar, sizeOf, typeInfo, hi, hl, hsz, hrun]
  | _ => exact h.elim

/-! ### Conversions -/
def wide (k1 k2 : IntKind) : Bool :=
  match k1, k2 with
  | .u8, .u8 | .u8, .u16 | .u8, .u32 | .u8, .u64 | .u8, .i16 | .u8, .i32 | .u8, .i64
  | .u16, .u16 | .u16, .u32 | .u16, .u64 | .u16, .i32 | .u16, .i64
  | .u32, .u32 | .u32, .u64 | .u32, .i64 | .u64, .u64
  | .i8, .i8 | .i8, .i16 | .i8, .i32 | .i8, .i64 | .i16, .i16 | .i16, .i32 | .i16, .i64 | .i32, .i32 | .i32, .i64 | .i64, .i64 => true
  | _, _ => false
theorem inR_wide {k1 k2 : IntKind} {n : Int} (h : inR k1 n) (hw : wide k1 k2 = true) : inR k2 n := by
  cases k1 <;> cases k2 <;> first | (simp [wide] at hw; done) | exact h | (simp only [inR_u8, inR_u16, inR_u32, inR_u64, inR_i8, inR_i16, inR_i32, inR_i64] at *; omega)
def cviW (k1 k2 : IntKind) (n : Int) (k : D → Prop) : Prop := match wide k1 k2 with | true => k (.int k2 n) | false => k (.int k2 (k2.wrap n))

def bsW (cs : List D) (k : List UInt8 → Prop) : Prop := ∃ bs : List UInt8, cs = bs.map bD ∧ k bs
theorem bD_inj {a b : UInt8} (h : bD a = bD b) : a = b := by
  simp only [bD, D.int.injEq, true_and] at h
  exact UInt8.toNat_inj.1 (by omega)
theorem bsW_map (bs : List UInt8) (k : List UInt8 → Prop) : bsW (bs.map bD) k = k bs := by
  apply propext
  constructor
  · rintro ⟨bs', he, hk⟩
    rw [(List.map_inj_right (fun a b h => bD_inj h)).1 he]
    exact hk
  · exact fun h => ⟨bs, rfl, h⟩

/-- A readable row of bytes, as the machine turns it into a string. -/
theorem run_toString {F : Nat → Prop} {x : Value} {n : Nat} {bs : List UInt8} {vs : List Value} (src : Src P w F 1 x n (bs.map bD) vs) (hsh : ∃ p c, x = .slice p n c) :
    ∃ b : ByteArray, (Conv.bytesToString x).run P w = .ok (.string b) w ∧ b.data.toList = bs := by
  obtain ⟨p, c, rfl⟩ := hsh
  have hlb : bs.length = n := by have := src.lc; simpa using this
  have hv : vs = bs.map (fun b => Value.int .u8 b.toNat) := by
    apply List.ext_getElem?
    intro j
    by_cases hj : j < n
    · have h1 : vs[j]? = some (vs[j]'(by rw [src.lv]; omega)) := by simp
      have h2 : (bs.map bD)[j]? = some (bD (bs[j]'(by omega))) := by rw [List.getElem?_map, List.getElem?_eq_getElem (by omega)]; rfl
      have h3 := (src.rep j _ _ h1 h2).1
      generalize hvj : vs[j]'(by rw [src.lv]; omega) = x at *
      cases h3
      rw [h1]
      simp [hj, hlb]
    · rw [List.getElem?_eq_none (by rw [src.lv]; omega), List.getElem?_eq_none (by simp; omega)]
  cases p with
  | none =>
    have hrun := src.cells n (Nat.le_refl _) w (fun _ _ => rfl)
    simp only [Builtin.firstCells, Sem.run_pure, Result.ok.injEq, and_true] at hrun
    have h0 : vs = [] := by
      have := congrArg Array.toList hrun
      simp only [List.take_of_length_le (show vs.length ≤ n * 1 by rw [src.lv]; exact Nat.le_refl _)] at this
      exact this.symm
    refine ⟨.empty, by simp [Conv.bytesToString], ?_⟩
    rw [h0] at hv
    have : bs = [] := by simpa using hv.symm
    subst this
    rfl
  | some a =>
    have hrun := src.cells n (Nat.le_refl _) w (fun _ _ => rfl)
    simp only [Builtin.firstCells, Nat.mul_one] at hrun
    have h0 : (vs.take n).toArray = (bs.map fun b => Value.int .u8 b.toNat).toArray := by
      rw [hv, List.take_of_length_le (by simp [hlb])]
    rw [h0] at hrun
    refine ⟨(bs.map fun b => (b.toNat : Int)).foldl (fun r n => r.push (UInt8.ofNat n.toNat)) ByteArray.empty, ?_, ?_⟩
    · have := @run_bytesToString P w a n c (bs.map fun b => (b.toNat : Int))
      refine this ?_
      rw [hrun]
      congr 2
      simp
    · have key : ∀ (l : List UInt8) (r : ByteArray), ((l.map fun b => (b.toNat : Int)).foldl (fun r n => r.push (UInt8.ofNat n.toNat)) r).data.toList = r.data.toList ++ l := by
        intro l
        induction l with
        | nil => simp
        | cons b l ih => intro r; simp only [List.map_cons, List.foldl_cons, ih]; simp [ByteArray.push]
      rw [key]; simp

/-- A row for reading is a slice's value. -/
theorem srcW_shape {x : Value} {d : D} {sz : Nat} {k : Nat → List D → Prop} (hr : Rep φ w (FSx φ S.own w) x d) (h : srcW S sz d k) (hs : ∀ s, d ≠ .str s) : ∃ p n c, x = .slice p n c ∧ n ≤ maxLen := by
  cases d with
  | str s => exact (hs s rfl).elim
  | nils => cases hr with | ro hr => cases hr; exact ⟨_, _, _, rfl, by simp [maxLen]⟩
  | sl => cases hr with | ro hr => cases hr with
    | sl0 => exact ⟨_, _, _, rfl, by simp [maxLen]⟩
    | sl g a b c d => exact ⟨_, _, _, rfl, by omega⟩
  | slx => cases hr with | ro hr => cases hr with
    | slx0 => exact ⟨_, _, _, rfl, by simp [maxLen]⟩
    | slx g a b c d => exact ⟨_, _, _, rfl, by omega⟩
  | osl => cases hr with
    | ro hr => cases hr
    | osl0 => exact ⟨_, _, _, rfl, by simp [maxLen]⟩
    | osl => exact ⟨_, _, _, rfl, by omega⟩
  | osw => cases hr with
    | ro hr => cases hr
    | osw0 => exact ⟨_, _, _, rfl, by simp [maxLen]⟩
    | osw => exact ⟨_, _, _, rfl, by omega⟩
  | _ => exact h.elim

/-- 'ts', 'td': the types converted from and to; 'eb': the elements of the slice among them are bytes. -/
def cvW (S : St) (ts td : TY) (d : D) (k : D → St → Prop) : Prop :=
  match td, d with
  | .int k2, .int k1 n => cviW k1 k2 n fun d => k d S
  | .str, .str s => k (.str s) S
  | .slice _, .str s => s.length ≤ maxLen ∧ newW S (s.map bD) fun S' => k (.osl S.nx 1 s.length) S'
  | .str, d => (∃ e, ts = .slice e) ∧ srcW S 1 d fun _ cs => bsW cs fun bs => k (.str bs) S
  | _, _ => False

theorem cvW_ok (hs : SatC w0 φ S tmps w) {src dst : TypeId} (hby : ∀ e, tyOf P src = .slice e ∨ tyOf P dst = .slice e → P.underlying e = some (.int .u8)) {xv : Value} {d : D} (hx : Rep φ w (FSx φ S.own w) xv d) (hu : ∃ u, P.underlying src = some u) {k : D → St → Prop} (h : cvW S (tyOf P src) (tyOf P dst) d k) :
    ∃ v w', (convert src dst xv).run P w = .ok v w' ∧ Left w0 S tmps k v w' := by
  unfold cvW at h
  split at h
  · rename_i k2 k1 n ht
    obtain ⟨rfl, hn⟩ := hx.int_inv
    obtain ⟨u, hu⟩ := hu
    have hrun : (convert src dst (.int k1 n)).run P w = .ok (.int k2 (k2.wrap n)) w := by
      simp [convert, run_underlying (tyOf_int ht), run_underlying hu, Conv.intToInt]
    refine ⟨_, _, hrun, ?_⟩
    unfold cviW at h
    split at h
    · rename_i hw
      have := inR_wide hn hw
      rw [wrap_of_inR this]
      exact left_same hs h (.ro (.int this.1 this.2))
    · exact left_same hs h (.ro (.int (inR_wrap _ _).1 (inR_wrap _ _).2))
  · rename_i s ht
    obtain ⟨b, rfl, hb, hl⟩ := hx.str_inv
    obtain ⟨u, hu⟩ := hu
    refine ⟨_, _, ?_, left_same hs h (.ro (.str hb hl))⟩
    simp [convert, run_underlying (tyOf_str ht), run_underlying hu]
  · rename_i e s ht
    obtain ⟨b, rfl, hb, hl⟩ := hx.str_inv
    obtain ⟨u, hu⟩ := hu
    obtain ⟨hlm, h⟩ := h
    have hrun := Lib.run_convert_string_bytes (P := P) w src dst e b hu (tyOf_slice ht) (hby e (.inr ht))
    have hbsz : b.size = s.length := by rw [ba_size, hb]
    have hge : b.size ≤ grownCap w b.size 0 e := grownCap_ge w _ _ _
    have hle : grownCap w b.size 0 e ≤ maxLen := grownCap_le_maxLen w _ _ _ (by rw [hbsz]; exact hlm)
    have hsize : (Lib.bytesCells w e b).size = grownCap w b.size 0 e := by
      have e1 : b.data.size = b.size := rfl
      simp only [Lib.bytesCells, Array.size_append, Array.size_map, Array.size_replicate, e1]; omega
    -- the world: a draw, a new row, its mark behind the end
    have hworld : Lib.bytesWorld w e b = w.drew.alloc (.cells (Lib.bytesCells w e b) e ((Lib.bytesCells w e b).size, (Lib.bytesCells w e b).size + 1)) := by
      unfold Lib.bytesWorld World.freeze
      simp only [Nat.one_ne_zero, if_false]
      unfold World.alloc World.drew
      simp only
      congr 1
      apply Array.ext_getElem?
      intro j
      rw [Array.getElem?_modify, Array.getElem?_push, Array.getElem?_push]
      by_cases hj : w.heap.size = j
      · subst hj; simp
      · rw [if_neg hj, if_neg (fun e => hj e.symm), if_neg (fun e => hj e.symm)]
    obtain ⟨φ', S', hk, hs', hn, hlo⟩ := newW_ok hs.drew (cs := s.map bD) (arr := Lib.bytesCells w e b) (T := e) (fz := ((Lib.bytesCells w e b).size, (Lib.bytesCells w e b).size + 1)) (fun o ho => by simp only; omega)
      (by rw [hsize, List.length_map, ← hbsz]; exact hge) (fun j v d hv hd => by
        simp only [List.getElem?_map] at hd
        cases hj : s[j]? with
        | none => simp [hj] at hd
        | some c =>
          have hjl : j < b.data.size := by have := (List.getElem?_eq_some_iff.1 hj).1; rw [← hb] at this; simpa using this
          have hc : b.data[j]? = some c := by rw [← Array.getElem?_toList, hb]; exact hj
          simp only [hj, Option.map_some, Option.some.injEq] at hd
          subst hd
          rw [Lib.bytesCells, Array.getElem?_append, if_pos (by simpa using hjl), Array.getElem?_map, hc] at hv
          simp only [Option.map_some, Option.some.injEq] at hv
          subst hv
          have := c.toNat_lt
          exact ⟨.ro (.int (by show (0 : Int) ≤ _; omega) (by show _ ≤ (255 : Int); omega)), rfl, rfl⟩) h
    rw [hworld] at hrun
    refine ⟨_, _, hrun, φ', _, S', hk, hs', ?_, hn⟩
    rw [hbsz] at hge hle hsize ⊢
    exact Rep.osl (by rw [hlo]; rfl) (by rw [hlo]; simp only [Nat.mul_one]; exact hsize.symm) hge hle
  · rename_i d' ht hd'
    obtain ⟨⟨e, hts⟩, h⟩ := h
    obtain ⟨n, cs, vs, hk, src⟩ := srcW_ok (P := P) hs hx h
    obtain ⟨bs, rfl, hk⟩ := hk
    obtain ⟨p, n', c, rfl, hnm⟩ := srcW_shape hx h (fun s hs => hd' s hs)
    have hn : n' = n := by have := src.len w; simp [Builtin.lenOf] at this; exact this
    subst hn
    obtain ⟨b, hrun, hb⟩ := run_toString src ⟨p, c, rfl⟩
    have hlm : bs.length ≤ maxLen := by
      have := src.lc
      simp only [List.length_map, Nat.mul_one] at this
      rw [this]
      exact hnm
    refine ⟨_, _, ?_, left_same hs hk (.ro (.str hb hlm))⟩
    have hbyte := hby e (.inl hts)
    simp only [convert, Sem.run_bind, run_underlying (tyOf_slice hts), run_underlying (tyOf_str ht), Result.andThen_ok, run_underlying hbyte]
    exact hrun
  · exact h.elim
end

#print axioms cvW_ok
#print axioms storeW_ok
end Go.Abs
