/-
  AN ABSTRACT WALK, tenth text: new variables; stores; built values; conversions; make; copy; len, min, max.
-/
import Derived.Test.YtaakjjhifhjbfaaDoorAbs9
import Derived.Laws.MakeOwn
import Derived.DeepKeys
import Derived.TacticsIn
import Derived.OrdersIn
section
namespace Go.Abs
open Go.RowKit (Below)

section
variable {P : Program} {w0 : Bas} {w : World} {φ : Loc} {S : St} {tmps : Array Value}

/-! ### New variables -/
theorem newW_ok (hs : SatC w0 φ S tmps w) {cs : List D} {arr : Array Value} {T : TypeId} {fz : Nat × Nat} (hfz : ∀ o, o < arr.size → ¬ (fz.1 ≤ o ∧ o < fz.2)) (hl : cs.length ≤ arr.size)
    (hr : ∀ (i : Nat) (v : Value) (d : D), arr[i]? = some v → cs[i]? = some d → Rep φ w (FSx φ S.own w) v d ∧ v.oneCell' = true ∧ mn S.nx d = false) {k : St → Prop} (h : newW S cs k) :
    ∃ φ' S', k S' ∧ SatC w0 φ' S' tmps (w.alloc (.cells arr T fz)) ∧ S'.n = S.n ∧ (φ' S.nx) = (some w.heap.size, arr.size) := by
  obtain ⟨hnm, hk⟩ := nmW_ok h
  exact ⟨_, _, hk, hs.new arr T fz cs hfz hl hr hnm, rfl, upd_same _ _ _⟩

theorem run_alloc {t : TypeId} {i : TypeInfo} {v : Value} (hi : P.info? t = some i) (hz : i.zero = some v) : (Instr.alloc t true (.tuple #[])).run P w = .ok (.pointer (some ⟨w.heap.size, 0, none⟩)) (w.alloc (.cells v.cells t)) := by
  simp [Instr.alloc, zeroValue, typeInfo, hi, hz, newVar, newRow]

theorem allocW_ok (hs : SatC w0 φ S tmps w) {t : TypeId} {k : D → St → Prop} (h : zeroW P t fun cs => newW S cs fun S' => k (.ptr S.nx 0) S') :
    ∃ v w', (Instr.alloc t true (.tuple #[])).run P w = .ok v w' ∧ Left w0 S tmps k v w' := by
  obtain ⟨i, v, hi, hz, h1, h⟩ := zeroW_ok h
  obtain ⟨φ', S', hk, hs', hn, hl⟩ := newW_ok hs (arr := v.cells) (T := t) (fz := (0, 0)) (fun o _ => by simp) (by simp) (fun j x d hx hd => by
    simp only [List.getElem?_map, Array.getElem?_toList, hx, Option.map_some, Option.some.injEq] at hd
    subst hd
    have := Array.all_eq_true.1 h1
    obtain ⟨hj, rfl⟩ := Array.getElem?_eq_some_iff.1 hx
    exact ⟨.ro (dS_ok w _ _), this j hj, mn_of_repR (dS_ok w (FSx φ S.own w) _) _⟩) h
  exact ⟨_, _, run_alloc hi hz, φ', _, S', hk, hs', .ptr (by rw [hl]), hn⟩

def clW (d : D) (k : List D → Prop) : Prop :=
  match d with
  | .agg cs | .oag cs => k cs
  | .any | .tup _ => False
  | d => k [d]
theorem clW_ok {F : Nat → Prop} {v : Value} {d : D} {k : List D → Prop} (hr : Rep φ w F v d) (h : clW d k) : ∃ cs, k cs ∧ v.cells.size = cs.length ∧ ∀ (i : Nat) (x : Value) (e : D), v.cells[i]? = some x → cs[i]? = some e → Rep φ w F x e ∧ x.oneCell' = true := by
  have one : ∀ d, (∀ (i : Nat) (x : Value) (e : D), v.cells[i]? = some x → [d][i]? = some e → Rep φ w F x e ∧ x.oneCell' = true) ∧ v.cells.size = 1 → k [d] → ∃ cs, k cs ∧ v.cells.size = cs.length ∧ ∀ (i : Nat) (x : Value) (e : D), v.cells[i]? = some x → cs[i]? = some e → Rep φ w F x e ∧ x.oneCell' = true :=
    fun d hd hk => ⟨[d], hk, by simpa using hd.2, hd.1⟩
  have sing : ∀ (v : Value) (d : D), v.cells = #[v] → v.oneCell' = true → Rep φ w F v d → (∀ (i : Nat) (x : Value) (e : D), v.cells[i]? = some x → [d][i]? = some e → Rep φ w F x e ∧ x.oneCell' = true) ∧ v.cells.size = 1 := by
    intro v d hv h1 hr
    rw [hv]
    refine ⟨fun i x e hx he => ?_, rfl⟩
    cases i with
    | zero => simp at hx he; subst hx; subst he; exact ⟨hr, h1⟩
    | succ i => simp at he
  cases hr with
  | ro h' =>
    cases h' with
    | any => exact h.elim
    | tup => exact h.elim
    | agg a b c => exact ⟨_, h, a, fun i x e hx he => ⟨.ro (c i x e hx he), b i x hx⟩⟩
    | int a b => exact one _ (sing _ _ rfl rfl (.ro (.int a b))) h
    | bool => exact one _ (sing _ _ rfl rfl (.ro .bool)) h
    | str a b => exact one _ (sing _ _ rfl rfl (.ro (.str a b))) h
    | nils => exact one _ (sing _ _ rfl rfl (.ro .nils)) h
    | sl0 a => exact one _ (sing _ _ rfl rfl (.ro (.sl0 a))) h
    | sl g a b c d e f i => exact one _ (sing _ _ rfl rfl (.ro (.sl g a b c d e f i))) h
    | slx0 => exact one _ (sing _ _ rfl rfl (.ro .slx0)) h
    | slx g a b c d e f => exact one _ (sing _ _ rfl rfl (.ro (.slx g a b c d e f))) h
    | rop g a b c => exact one _ (sing _ _ rfl rfl (.ro (.rop g a b c))) h
    | fn a b => exact one _ (sing _ _ rfl rfl (.ro (.fn a b))) h
    | yld => exact one _ (sing _ _ rfl rfl (.ro .yld)) h
    | mpr => exact one _ (sing _ _ rfl rfl (.ro .mpr)) h
  | ptr a => exact one _ (sing _ _ rfl rfl (.ptr a)) h
  | osl0 a => exact one _ (sing _ _ rfl rfl (.osl0 a)) h
  | osl a b c d => exact one _ (sing _ _ rfl rfl (.osl a b c d)) h
  | osw0 a => exact one _ (sing _ _ rfl rfl (.osw0 a)) h
  | osw a b c d => exact one _ (sing _ _ rfl rfl (.osw a b c d)) h
  | oag a b c => exact ⟨_, h, a, fun i x e hx he => ⟨c i x e hx he, b i x hx⟩⟩
  | ofn a b => exact one _ (sing _ _ rfl rfl (.ofn a b)) h

theorem boxW_ok (hs : SatC w0 φ S tmps w) {t : TypeId} {xv : Value} {d : D} (hx : Rep φ w (FSx φ S.own w) xv d) {k : D → St → Prop} (h : clW d fun cs => nmC S.nx cs ∧ newW S cs fun S' => k (.ptr S.nx 0) S') :
    ∃ v w', (Instr.box t xv).run P w = .ok v w' ∧ Left w0 S tmps k v w' := by
  obtain ⟨cs, ⟨hnc, h⟩, hl, hr⟩ := clW_ok hx h
  obtain ⟨φ', S', hk, hs', hn, hlo⟩ := newW_ok hs (arr := xv.cells) (T := t) (fz := (0, 0)) (fun o _ => by simp) (by omega) (fun j x d hx hd => ⟨(hr j x d hx hd).1, (hr j x d hx hd).2, hnc d (List.mem_of_getElem? hd)⟩) h
  exact ⟨.pointer (some ⟨w.heap.size, 0, none⟩), w.alloc (.cells xv.cells t), by simp [Instr.box, newVar, newRow], φ', _, S', hk, hs', .ptr (by rw [hlo]), hn⟩

/-! ### Stores -/
def splW (c : List D) (off : Nat) (ds : List D) (k : List D → Prop) : Prop := k (splD c off ds)
def storeW (S : St) (p : D) (ds : List D) (k : St → Prop) : Prop :=
  match p with
  | .ptr id off => lkoW id S.own fun c => off + ds.length ≤ c.length ∧ splW c off ds fun c' => soW id c' S.own fun own' => k ⟨S.n, S.nx, S.env, own'⟩
  | _ => False
theorem storeW_ok (hs : SatC w0 φ S tmps w) {t : TypeId} {i : TypeInfo} (hi : P.info? t = some i) {pv xv : Value} {p d : D} (hp : Rep φ w (FSx φ S.own w) pv p) (hx : Rep φ w (FSx φ S.own w) xv d) {k : D → St → Prop}
    (h : clW d fun ds => ds.length = i.size ∧ storeW S p ds fun S' => k .any S') :
    ∃ w', (Instr.storeAt t pv xv).run P w = .ok () w' ∧ ∀ v, Left w0 S tmps k v w' := by
  obtain ⟨ds, ⟨hsz, h⟩, hl, hr⟩ := clW_ok hx h
  cases p with
  | ptr id off =>
    obtain ⟨c, hc, hfit, hk⟩ := lkoW_ok h
    cases hp with
    | ro hp => cases hp
    | @ptr _ _ b hb =>
      obtain ⟨w', hrun, hs', hrep⟩ := hs.store (P := P) (vs := xv.cells.toList) hc hb (by simpa using hl) hfit (fun i v d hv hd => hr i v d (by simpa using hv) hd)
      refine ⟨w', ?_, fun v => ⟨φ, _, _, hk, hs', .ro (.any v), rfl⟩⟩
      simp [Instr.storeAt, Instr.sureAddr, storeVar, sizeOf, typeInfo, hi, hl, hsz, hrun]
  | _ => exact h.elim

/-! ### Conversions -/
def wide (k1 k2 : IntKind) : Bool :=
  match k1, k2 with
  | .u8, .u8 | .u8, .u16 | .u8, .u32 | .u8, .u64 | .u8, .i16 | .u8, .i32 | .u8, .i64
  | .u16, .u16 | .u16, .u32 | .u16, .u64 | .u16, .i32 | .u16, .i64
  | .u32, .u32 | .u32, .u64 | .u32, .i64 | .u64, .u64
  | .i8, .i8 | .i8, .i16 | .i8, .i32 | .i8, .i64 | .i16, .i16 | .i16, .i32 | .i16, .i64 | .i32, .i32 | .i32, .i64 | .i64, .i64 => true
  | _, _ => false
theorem inR_wide {k1 k2 : IntKind} {n : Int} (h : inR k1 n) (hw : wide k1 k2 = true) : inR k2 n := by
  cases k1 <;> cases k2 <;> first | (simp [wide] at hw; done) | exact h | (simp only [inR_u8, inR_u16, inR_u32, inR_u64, inR_i8, inR_i16, inR_i32, inR_i64] at *; omega)
def cviW (k1 k2 : IntKind) (n : Int) (k : D → Prop) : Prop := match wide k1 k2 with | true => k (.int k2 n) | false => k (.int k2 (k2.wrap n))

def bsW (cs : List D) (k : List UInt8 → Prop) : Prop := ∃ bs : List UInt8, cs = bs.map bD ∧ k bs
theorem bD_inj {a b : UInt8} (h : bD a = bD b) : a = b := by
  simp only [bD, D.int.injEq, true_and] at h
  exact UInt8.toNat_inj.1 (by omega)
theorem bsW_map (bs : List UInt8) (k : List UInt8 → Prop) : bsW (bs.map bD) k = k bs := by
  apply propext
  constructor
  · rintro ⟨bs', he, hk⟩
    rw [(List.map_inj_right (fun a b h => bD_inj h)).1 he]
    exact hk
  · exact fun h => ⟨bs, rfl, h⟩

/-- A readable row of bytes, as the machine turns it into a string. -/
theorem run_toString {F : Nat → Prop} {x : Value} {n : Nat} {bs : List UInt8} {vs : List Value} (src : Src P w F 1 x n (bs.map bD) vs) (hsh : ∃ p c, x = .slice p n c) :
    ∃ b : ByteArray, (Conv.bytesToString x).run P w = .ok (.string b) w ∧ b.data.toList = bs := by
  obtain ⟨p, c, rfl⟩ := hsh
  have hlb : bs.length = n := by have := src.lc; simpa using this
  have hv : vs = bs.map (fun b => Value.int .u8 b.toNat) := by
    apply List.ext_getElem?
    intro j
    by_cases hj : j < n
    · have h1 : vs[j]? = some (vs[j]'(by rw [src.lv]; omega)) := by simp
      have h2 : (bs.map bD)[j]? = some (bD (bs[j]'(by omega))) := by rw [List.getElem?_map, List.getElem?_eq_getElem (by omega)]; rfl
      have h3 := (src.rep j _ _ h1 h2).1
      generalize hvj : vs[j]'(by rw [src.lv]; omega) = x at *
      cases h3
      rw [h1]
      simp [hj, hlb]
    · rw [List.getElem?_eq_none (by rw [src.lv]; omega), List.getElem?_eq_none (by simp; omega)]
  cases p with
  | none =>
    have hrun := src.cells n (Nat.le_refl _) w (fun _ _ => rfl)
    simp only [Builtin.firstCells, Sem.run_pure, Result.ok.injEq, and_true] at hrun
    have h0 : vs = [] := by
      have := congrArg Array.toList hrun
      simp only [List.take_of_length_le (show vs.length ≤ n * 1 by rw [src.lv]; exact Nat.le_refl _)] at this
      exact this.symm
    refine ⟨.empty, by simp [Conv.bytesToString], ?_⟩
    rw [h0] at hv
    have : bs = [] := by simpa using hv.symm
    subst this
    rfl
  | some a =>
    have hrun := src.cells n (Nat.le_refl _) w (fun _ _ => rfl)
    simp only [Builtin.firstCells, Nat.mul_one] at hrun
    have h0 : (vs.take n).toArray = (bs.map fun b => Value.int .u8 b.toNat).toArray := by
      rw [hv, List.take_of_length_le (by simp [hlb])]
    rw [h0] at hrun
    refine ⟨(bs.map fun b => (b.toNat : Int)).foldl (fun r n => r.push (UInt8.ofNat n.toNat)) ByteArray.empty, ?_, ?_⟩
    · have := @run_bytesToString P w a n c (bs.map fun b => (b.toNat : Int))
      refine this ?_
      rw [hrun]
      congr 2
      simp
    · have key : ∀ (l : List UInt8) (r : ByteArray), ((l.map fun b => (b.toNat : Int)).foldl (fun r n => r.push (UInt8.ofNat n.toNat)) r).data.toList = r.data.toList ++ l := by
        intro l
        induction l with
        | nil => simp
        | cons b l ih => intro r; simp only [List.map_cons, List.foldl_cons, ih]; simp [ByteArray.push]
      rw [key]; simp

/-- A row for reading is a slice's value. -/
theorem srcW_shape {x : Value} {d : D} {sz : Nat} {k : Nat → List D → Prop} (hr : Rep φ w (FSx φ S.own w) x d) (h : srcW S sz d k) (hs : ∀ s, d ≠ .str s) : ∃ p n c, x = .slice p n c ∧ n ≤ maxLen := by
  cases d with
  | str s => exact (hs s rfl).elim
  | nils => cases hr with | ro hr => cases hr; exact ⟨_, _, _, rfl, by simp [maxLen]⟩
  | sl => cases hr with | ro hr => cases hr with
    | sl0 => exact ⟨_, _, _, rfl, by simp [maxLen]⟩
    | sl g a b c d => exact ⟨_, _, _, rfl, by omega⟩
  | slx => cases hr with | ro hr => cases hr with
    | slx0 => exact ⟨_, _, _, rfl, by simp [maxLen]⟩
    | slx g a b c d => exact ⟨_, _, _, rfl, by omega⟩
  | osl => cases hr with
    | ro hr => cases hr
    | osl0 => exact ⟨_, _, _, rfl, by simp [maxLen]⟩
    | osl => exact ⟨_, _, _, rfl, by omega⟩
  | osw => cases hr with
    | ro hr => cases hr
    | osw0 => exact ⟨_, _, _, rfl, by simp [maxLen]⟩
    | osw => exact ⟨_, _, _, rfl, by omega⟩
  | _ => exact h.elim

/-- 'ts', 'td': the types converted from and to; 'eb': the elements of the slice among them are bytes. -/
def cvW (S : St) (ts td : TY) (d : D) (k : D → St → Prop) : Prop :=
  match td, d with
  | .int k2, .int k1 n => cviW k1 k2 n fun d => k d S
  | .str, .str s => k (.str s) S
  | .slice _, .str s => s.length ≤ maxLen ∧ newW S (s.map bD) fun S' => k (.osl S.nx 1 s.length) S'
  | .str, d => (∃ e, ts = .slice e) ∧ srcW S 1 d fun _ cs => bsW cs fun bs => k (.str bs) S
  | _, _ => False

theorem cvW_ok (hs : SatC w0 φ S tmps w) {src dst : TypeId} (hby : ∀ e, tyOf P src = .slice e ∨ tyOf P dst = .slice e → P.underlying e = some (.int .u8)) {xv : Value} {d : D} (hx : Rep φ w (FSx φ S.own w) xv d) (hu : ∃ u, P.underlying src = some u) {k : D → St → Prop} (h : cvW S (tyOf P src) (tyOf P dst) d k) :
    ∃ v w', (convert src dst xv).run P w = .ok v w' ∧ Left w0 S tmps k v w' := by
  unfold cvW at h
  split at h
  · rename_i k2 k1 n ht
    obtain ⟨rfl, hn⟩ := hx.int_inv
    obtain ⟨u, hu⟩ := hu
    have hrun : (convert src dst (.int k1 n)).run P w = .ok (.int k2 (k2.wrap n)) w := by
      simp [convert, run_underlying (tyOf_int ht), run_underlying hu, Conv.intToInt]
    refine ⟨_, _, hrun, ?_⟩
    unfold cviW at h
    split at h
    · rename_i hw
      have := inR_wide hn hw
      rw [wrap_of_inR this]
      exact left_same hs h (.ro (.int this.1 this.2))
    · exact left_same hs h (.ro (.int (inR_wrap _ _).1 (inR_wrap _ _).2))
  · rename_i s ht
    obtain ⟨b, rfl, hb, hl⟩ := hx.str_inv
    obtain ⟨u, hu⟩ := hu
    refine ⟨_, _, ?_, left_same hs h (.ro (.str hb hl))⟩
    simp [convert, run_underlying (tyOf_str ht), run_underlying hu]
  · rename_i e s ht
    obtain ⟨b, rfl, hb, hl⟩ := hx.str_inv
    obtain ⟨u, hu⟩ := hu
    obtain ⟨hlm, h⟩ := h
    have hrun := Lib.run_convert_string_bytes (P := P) w src dst e b hu (tyOf_slice ht) (hby e (.inr ht))
    have hbsz : b.size = s.length := by rw [ba_size, hb]
    have hge : b.size ≤ grownCap w b.size 0 e := grownCap_ge w _ _ _
    have hle : grownCap w b.size 0 e ≤ maxLen := grownCap_le_maxLen w _ _ _ (by rw [hbsz]; exact hlm)
    have hsize : (Lib.bytesCells w e b).size = grownCap w b.size 0 e := by
      have e1 : b.data.size = b.size := rfl
      simp only [Lib.bytesCells, Array.size_append, Array.size_map, Array.size_replicate, e1]; omega
    -- the world: a draw, a new row, its mark behind the end
    have hworld : Lib.bytesWorld w e b = w.drew.alloc (.cells (Lib.bytesCells w e b) e ((Lib.bytesCells w e b).size, (Lib.bytesCells w e b).size + 1)) := by
      unfold Lib.bytesWorld World.freeze
      simp only [Nat.one_ne_zero, if_false]
      unfold World.alloc World.drew
      simp only
      congr 1
      apply Array.ext_getElem?
      intro j
      rw [Array.getElem?_modify, Array.getElem?_push, Array.getElem?_push]
      by_cases hj : w.heap.size = j
      · subst hj; simp
      · rw [if_neg hj, if_neg (fun e => hj e.symm), if_neg (fun e => hj e.symm)]
    obtain ⟨φ', S', hk, hs', hn, hlo⟩ := newW_ok hs.drew (cs := s.map bD) (arr := Lib.bytesCells w e b) (T := e) (fz := ((Lib.bytesCells w e b).size, (Lib.bytesCells w e b).size + 1)) (fun o ho => by simp only; omega)
      (by rw [hsize, List.length_map, ← hbsz]; exact hge) (fun j v d hv hd => by
        simp only [List.getElem?_map] at hd
        cases hj : s[j]? with
        | none => simp [hj] at hd
        | some c =>
          have hjl : j < b.data.size := by have := (List.getElem?_eq_some_iff.1 hj).1; rw [← hb] at this; simpa using this
          have hc : b.data[j]? = some c := by rw [← Array.getElem?_toList, hb]; exact hj
          simp only [hj, Option.map_some, Option.some.injEq] at hd
          subst hd
          rw [Lib.bytesCells, Array.getElem?_append, if_pos (by simpa using hjl), Array.getElem?_map, hc] at hv
          simp only [Option.map_some, Option.some.injEq] at hv
          subst hv
          have := c.toNat_lt
          exact ⟨.ro (.int (by show (0 : Int) ≤ _; omega) (by show _ ≤ (255 : Int); omega)), rfl, rfl⟩) h
    rw [hworld] at hrun
    refine ⟨_, _, hrun, φ', _, S', hk, hs', ?_, hn⟩
    rw [hbsz] at hge hle hsize ⊢
    exact Rep.osl (by rw [hlo]; rfl) (by rw [hlo]; simp only [Nat.mul_one]; exact hsize.symm) hge hle
  · rename_i d' ht hd'
    obtain ⟨⟨e, hts⟩, h⟩ := h
    obtain ⟨n, cs, vs, hk, src⟩ := srcW_ok (P := P) hs hx h
    obtain ⟨bs, rfl, hk⟩ := hk
    obtain ⟨p, n', c, rfl, hnm⟩ := srcW_shape hx h (fun s hs => hd' s hs)
    have hn : n' = n := by have := src.len w; simp [Builtin.lenOf] at this; exact this
    subst hn
    obtain ⟨b, hrun, hb⟩ := run_toString src ⟨p, c, rfl⟩
    have hlm : bs.length ≤ maxLen := by
      have := src.lc
      simp only [List.length_map, Nat.mul_one] at this
      rw [this]
      exact hnm
    refine ⟨_, _, ?_, left_same hs hk (.ro (.str hb hlm))⟩
    have hbyte := hby e (.inl hts)
    simp only [convert, Sem.run_bind, run_underlying (tyOf_slice hts), run_underlying (tyOf_str ht), Result.andThen_ok, run_underlying hbyte]
    exact hrun
  · exact h.elim
end

#print axioms cvW_ok
#print axioms storeW_ok
end Go.Abs
end
section
namespace Go.Abs
open Go.RowKit (Below)

section
variable {P : Program} {w0 : Bas} {w : World} {φ : Loc} {S : St} {tmps : Array Value} {G : Glob}

/-! ### Written out -/
def catW (ds r : List D) (k : List D → Prop) : Prop := k (ds ++ r)
theorem catW_nil (r : List D) (k : List D → Prop) : catW [] r k = k r := _root_.id rfl
theorem catW_cons (d : D) (ds r : List D) (k : List D → Prop) : catW (d :: ds) r k = catW ds r fun r' => k (d :: r') := _root_.id rfl
theorem catW_map {α : Type} (f : α → D) (xs : List α) (r : List D) (k : List D → Prop) : catW (xs.map f) r k = k (xs.map f ++ r) := rfl
def drW (n : Nat) (c : List D) (k : List D → Prop) : Prop := k (c.drop n)
theorem drW_nil (n : Nat) (k : List D → Prop) : drW n [] k = k [] := by simp [drW]
theorem drW_cons (n : Nat) (d : D) (r : List D) (k : List D → Prop) : drW n (d :: r) k = if n = 0 then k (d :: r) else drW (n - 1) r k := by
  unfold drW; cases n <;> simp
def spsW (c : List D) (off sz : Nat) (ds : List D) (k : List D → Prop) : Prop := k (c.take off ++ ds ++ c.drop (off + sz))
theorem spsW_cons (d : D) (r : List D) (off sz : Nat) (ds : List D) (k : List D → Prop) : spsW (d :: r) off sz ds k = if off = 0 then drW sz (d :: r) (fun r' => catW ds r' k) else spsW r (off - 1) sz ds fun r' => k (d :: r') := by
  unfold spsW drW catW
  cases off with
  | zero => simp
  | succ n => simp [show n + 1 + sz = n + sz + 1 by omega]

def bldW (G : Glob) (S : St) (offs : Nat → (Nat → Nat → Prop) → Prop) : List (Nat × Operand) → List D → (List D → Prop) → Prop
  | [], c, k => k c
  | (i, x) :: r, c, k => offs i fun off sz => evW G S x fun d => clW d fun ds => ds.length = sz ∧ off + sz ≤ c.length ∧ spsW c off sz ds fun c' => bldW G S offs r c' k

theorem foldl_setArr (vs : Array Value) (off : Nat) (cells : Array Value) : vs.zipIdx.foldl (fun cs (c, j) => cs.setIfInBounds (off + j) c) cells = setArr cells off vs.toList := by
  have key : ∀ (l : List Value) (o : Nat) (cs : Array Value), (l.zipIdx o).foldl (fun (cs : Array Value) (p : Value × Nat) => cs.setIfInBounds (off + p.2) p.1) cs = setArr cs (off + o) l := by
    intro l
    induction l with
    | nil => intro o cs; rfl
    | cons v l ih => intro o cs; rw [List.zipIdx_cons, List.foldl_cons, setArr, ih]; rfl
  rw [← Array.foldl_toList, Array.toList_zipIdx]
  exact key vs.toList 0 cells

theorem bldW_ok (hG : GOk G w0) {a : Act} (hs : SatC w0 φ S a.tmps w) {offs : Nat → (Nat → Nat → Prop) → Prop} {place : Nat → Option (Nat × Nat)} (hoff : ∀ i k, offs i k → ∃ o s, place i = some (o, s) ∧ k o s) :
    ∀ {parts : List (Nat × Operand)} {c : List D} {arr : Array Value} {k : List D → Prop}, arr.size = c.length → (∀ (i : Nat) (v : Value) (d : D), arr[i]? = some v → c[i]? = some d → Rep φ w (FSx φ S.own w) v d ∧ v.oneCell' = true) → bldW G S offs parts c k →
      ∃ arr' c', Instr.fill place arr (parts.map fun p => (p.1, a.eval p.2)) = some arr' ∧ k c' ∧ arr'.size = c'.length ∧ arr'.size = arr.size ∧ ∀ (i : Nat) (v : Value) (d : D), arr'[i]? = some v → c'[i]? = some d → Rep φ w (FSx φ S.own w) v d ∧ v.oneCell' = true
  | [], c, arr, k, hsz, hr, h => ⟨arr, c, rfl, h, hsz, rfl, hr⟩
  | (i, x) :: r, c, arr, k, hsz, hr, h => by
    obtain ⟨o, s, hp, h⟩ := hoff i _ h
    obtain ⟨d, h, hd⟩ := evW_ok hG hs h
    obtain ⟨ds, ⟨hl, hfit, h⟩, hvl, hvr⟩ := clW_ok hd h
    have hset : (setArr arr o (a.eval x).cells.toList).size = arr.size := setArr_size _ _ _
    have hspl : c.take o ++ ds ++ c.drop (o + s) = splD c o ds := by rw [splD, hl]
    have hlen : (splD c o ds).length = c.length := splD_length (by omega)
    have h' : bldW G S offs r (splD c o ds) k := by rw [← hspl]; exact h
    obtain ⟨arr', c', hf, hk, h1, h2, h3⟩ := bldW_ok hG hs hoff (parts := r) (arr := setArr arr o (a.eval x).cells.toList) (by rw [hset, hlen, hsz]) (fun j v e hv he => by
      rw [setArr_get _ _ _ _ (by simp [hvl]; omega)] at hv
      rw [splD_get (by omega)] at he
      simp only [Array.length_toList, hvl] at hv
      split at hv
      · rename_i hj
        rw [if_pos hj] at he
        exact hvr _ v e (by simpa using hv) he
      · rename_i hj
        rw [if_neg hj] at he
        exact hr j v e hv he) h'
    refine ⟨arr', c', ?_, hk, h1, by rw [h2, hset], h3⟩
    have e1 : ¬ ((a.eval x).cells.size ≠ s || o + (a.eval x).cells.size > arr.size) = true := by simp; omega
    simp only [List.map_cons, Instr.fill, hp]
    rw [if_neg e1, foldl_setArr]
    exact hf

/-- A struct. -/
theorem buildS_ok (hG : GOk G w0) {a : Act} (hs : SatC w0 φ S a.tmps w) {T : TypeId} {fs : List (Nat × TypeId)} (ht : tyOf P T = .struct fs) {parts : Array (Nat × Operand)} {k : D → Prop}
    (hfs : ∀ (i o ft : Nat), fs[i]? = some (o, ft) → ∃ inf, P.info? ft = some inf) (hall : ∀ p ∈ fs, ∃ inf, P.info? p.2 = some inf)
    (h : zeroW P T fun z => bldW G S (fun i k => fldW P T i fun o ft => szW P ft fun n => k o n) parts.toList z fun c => k (.oag c)) :
    ∃ v d, (Instr.build T (parts.map fun (i, x) => (i, a.eval x))).run P w = .ok v w ∧ k d ∧ Rep φ w (FSx φ S.own w) v d := by
  obtain ⟨i, z, hi, hz, h1, h⟩ := zeroW_ok h
  obtain ⟨fa, hfa, hfs'⟩ := tyOf_struct ht
  have hplaces : (fa.mapM fun f => do pure (f.offset, ← sizeOf f.type) : Sem (Array (Nat × Nat))).run P w = .ok (fa.map fun f => (f.offset, P.cellsOf f.type)) w := by
    have key : ∀ (l : List Field), (∀ f ∈ l, ∃ inf, P.info? f.type = some inf) → (l.mapM fun f => do pure (f.offset, ← sizeOf f.type) : Sem (List (Nat × Nat))).run P w = .ok (l.map fun f => (f.offset, P.cellsOf f.type)) w := by
      intro l
      induction l with
      | nil => intro _; simp
      | cons f l ih =>
        intro hl
        obtain ⟨inf, hinf⟩ := hl f (by simp)
        have ih := ih (fun g hg => hl g (by simp [hg]))
        have hf : (do pure (f.offset, ← sizeOf f.type) : Sem (Nat × Nat)).run P w = .ok (f.offset, P.cellsOf f.type) w := by simp [sizeOf, typeInfo, Program.cellsOf, hinf]
        rw [List.mapM_cons, Sem.run_bind, hf, Result.andThen_ok, Sem.run_bind, ih]
        rfl
    rw [Array.mapM_eq_mapM_toList]
    simp only [Sem.run_map]
    rw [key fa.toList (fun f hf => by
      have : (f.offset, f.type) ∈ fs := by rw [hfs']; exact List.mem_map.2 ⟨f, hf, rfl⟩
      exact hall _ this)]
    simp only [Result.andThen_ok]
    exact congrArg (fun x => Result.ok x w) (Array.ext' (by simp))
  obtain ⟨arr', c', hf, hk, hsz, _, hr⟩ := bldW_ok (arr := z.cells) (place := fun j => (fa.map fun f => (f.offset, P.cellsOf f.type))[j]?) hG hs (fun i k h => by
    obtain ⟨fa', x, q1, q2, h⟩ := fldW_ok h
    obtain ⟨inf, q3, h⟩ := szW_ok h
    rw [hfa] at q1; cases q1
    exact ⟨_, _, by simp [q2, Program.cellsOf, q3], h⟩) (by simp) (fun j v d hv hd => by
      simp only [List.getElem?_map, Array.getElem?_toList, hv, Option.map_some, Option.some.injEq] at hd
      subst hd
      have := Array.all_eq_true.1 h1
      obtain ⟨hj, rfl⟩ := Array.getElem?_eq_some_iff.1 hv
      exact ⟨.ro (dS_ok w _ _), this j hj⟩) h
  refine ⟨.agg arr', .oag c', ?_, hk, .oag hsz (fun j v hv => ?_) fun j v d hv hd => (hr j v d hv hd).1⟩
  · have e : (parts.map fun (i, x) => (i, a.eval x)).toList = parts.toList.map fun p => (p.1, a.eval p.2) := by simp
    simp only [Instr.build, Sem.run_bind, zeroValue, typeInfo, run_program, Result.andThen_ok, hi, hz, Sem.run_pure, run_underlying hfa]
    simp only [sizeOf, typeInfo] at hplaces
    simp only [sizeOf, typeInfo, hplaces, Result.andThen_ok, e, hf, Sem.run_pure]
  · obtain ⟨hj, rfl⟩ := Array.getElem?_eq_some_iff.1 hv
    exact (hr j _ (c'[j]'(by omega)) (by simp [hj]) (by simp)).2

/-- An array. -/
theorem buildA_ok (hG : GOk G w0) {a : Act} (hs : SatC w0 φ S a.tmps w) {T e : TypeId} {n : Nat} (ht : tyOf P T = .arr n e) {parts : Array (Nat × Operand)} {k : D → Prop}
    (h : zeroW P T fun z => szW P e fun sz => bldW G S (fun i k => k (i * sz) sz) parts.toList z fun c => k (.oag c)) :
    ∃ v d, (Instr.build T (parts.map fun (i, x) => (i, a.eval x))).run P w = .ok v w ∧ k d ∧ Rep φ w (FSx φ S.own w) v d := by
  obtain ⟨i, z, hi, hz, h1, h⟩ := zeroW_ok h
  obtain ⟨ie, hie, h⟩ := szW_ok h
  obtain ⟨arr', c', hf, hk, hsz, _, hr⟩ := bldW_ok (arr := z.cells) (place := fun j => some (j * ie.size, ie.size)) hG hs (fun i k h => ⟨_, _, rfl, h⟩) (by simp) (fun j v d hv hd => by
      simp only [List.getElem?_map, Array.getElem?_toList, hv, Option.map_some, Option.some.injEq] at hd
      subst hd
      have := Array.all_eq_true.1 h1
      obtain ⟨hj, rfl⟩ := Array.getElem?_eq_some_iff.1 hv
      exact ⟨.ro (dS_ok w _ _), this j hj⟩) h
  refine ⟨.agg arr', .oag c', ?_, hk, .oag hsz (fun j v hv => ?_) fun j v d hv hd => (hr j v d hv hd).1⟩
  · have e : (parts.map fun (i, x) => (i, a.eval x)).toList = parts.toList.map fun p => (p.1, a.eval p.2) := by simp
    simp only [Instr.build, Sem.run_bind, zeroValue, sizeOf, typeInfo, run_program, Result.andThen_ok, hi, hz, hie, Sem.run_pure, run_underlying (tyOf_arr ht), e, hf]
  · obtain ⟨hj, rfl⟩ := Array.getElem?_eq_some_iff.1 hv
    exact (hr j _ (c'[j]'(by omega)) (by simp [hj]) (by simp)).2

/-- A slice: in new memory, which from then on is only read. -/
theorem new_ro (hs : SatC w0 φ S tmps w) {arr : Array Value} {T : TypeId} {cs : List D} {n sz : Nat} (hsz : arr.size = n * sz) (hl : cs.length = n * sz) (hm : n ≤ maxLen) (hr : ∀ (i : Nat) (v : Value) (d : D), arr[i]? = some v → cs[i]? = some d → RepR w (FSx φ S.own w) v d ∧ v.oneCell' = true) :
    SatC w0 φ S tmps (w.alloc (.cells arr T)) ∧ RepR (w.alloc (.cells arr T)) (FSx φ S.own (w.alloc (.cells arr T))) (.slice (some ⟨w.heap.size, 0, none⟩) n n) (.slx sz n cs) := by
  have hb : Below w.heap.size w (w.alloc (.cells arr T)) := (Below.refl _ _).alloc (Nat.le_refl _) _
  have hblk : (w.alloc (.cells arr T)).heap[w.heap.size]? = some (.cells arr T) := heap_alloc_new w _
  refine ⟨hs.ext hb, .slx (fun j => arr.getD j undef) rfl ⟨by simp, fun id c hc hb => absurd ((hs.own id c hc).1.lt hb) (Nat.lt_irrefl _), hs.newBase⟩ hm hl (fun j hj => ?_) (fun j d hd => ?_)⟩
  · have h1 : arr[j]? = some (arr[j]'(by omega)) := by simp
    obtain ⟨d, hd⟩ : ∃ d, cs[j]? = some d := ⟨cs[j]'(by omega), by simp⟩
    simp only [World.cell?, hblk, Nat.zero_add, Option.isSome_none, Bool.false_eq_true, if_false, h1, Array.getD_eq_getD_getElem?, Option.getD_some, true_and]
    exact (hr j _ d h1 hd).2
  · have hj : j < arr.size := by have := (List.getElem?_eq_some_iff.1 hd).1; omega
    have h1 : arr[j]? = some arr[j] := by simp [hj]
    rw [Array.getD_eq_getD_getElem?, h1, Option.getD_some]
    exact (hr j _ d h1 hd).1.mono (fun k hk => hb.block k hk.1) fun k hk => FSx.ext hb hk

/-- 'n' times the cells of an element. -/
def repW (n : Nat) (z : List D) (k : List D → Prop) : Prop := k (List.replicate n z).flatten
theorem zeros_get {z : Array Value} {n j : Nat} {v : Value} {d : D} (hv : ((Array.range (n * z.size)).map fun i => z[i % z.size]!)[j]? = some v) (hd : (List.replicate n (z.toList.map dS)).flatten[j]? = some d) : ∃ i : Nat, z[i]? = some v ∧ d = dS v := by
  have hj : j < n * z.size := by
    have := (Array.getElem?_eq_some_iff.1 hv).1
    simpa using this
  have hz : 0 < z.size := by
    rcases Nat.eq_zero_or_pos z.size with h | h
    · rw [h] at hj; omega
    · exact h
  have hmod : j % z.size < z.size := Nat.mod_lt _ hz
  have e1 : v = z[j % z.size] := by
    simp only [Array.getElem?_map, Array.getElem?_range, hj, if_true, Option.map_some, Option.some.injEq] at hv
    rw [← hv, getElem!_pos z _ hmod]
  have key : ∀ (l : List D) (m i : Nat), i < m * l.length → (List.replicate m l).flatten[i]? = l[i % l.length]? := by
    intro l m
    induction m with
    | zero => intro i hi; omega
    | succ m ih =>
      intro i hi
      rw [List.replicate_succ, List.flatten_cons, List.getElem?_append]
      split
      · rename_i h; rw [Nat.mod_eq_of_lt h]
      · rename_i h
        rw [ih (i - l.length) (by rw [Nat.add_mul] at hi; omega), Nat.mod_eq_sub_mod (Nat.le_of_not_lt h)]
  rw [key _ n j (by simpa using hj)] at hd
  simp only [List.length_map, Array.length_toList, List.getElem?_map, Array.getElem?_toList] at hd
  refine ⟨j % z.size, by rw [e1]; simp [hmod], ?_⟩
  rw [show z[j % z.size]? = some z[j % z.size] by simp [hmod]] at hd
  simp only [Option.map_some, Option.some.injEq] at hd
  rw [← hd, e1]

theorem buildSl_ok (hG : GOk G w0) {a : Act} (hs : SatC w0 φ S a.tmps w) {T e : TypeId} {n : Nat} (ht : tyOf P T = .slice e) {parts : Array (Nat × Operand)} {k : D → St → Prop}
    (h : szW P e fun sz => n * sz ≤ 16777216 ∧ n ≤ maxLen ∧ zeroW P e fun z => z.length = sz ∧ repW n z fun c0 => bldW G S (fun i k => k (i * sz) sz) parts.toList c0 fun c => allP c ∧ k (.slx sz n c) S) :
    ∃ v w', (Instr.buildSlice T n (parts.map fun (i, x) => (i, a.eval x))).run P w = .ok v w' ∧ Left w0 S a.tmps k v w' := by
  obtain ⟨ie, hie, hsz, hm, h⟩ := szW_ok h
  obtain ⟨i', z, hi', hz, h1, hzl, h⟩ := zeroW_ok h
  rw [hie] at hi'; cases hi'
  have hzl : z.cells.size = ie.size := by simpa using hzl
  have hrange : ∀ (zz : Array Value), ((n * ie.size = 0 → zz = #[]) ∧ (n * ie.size ≠ 0 → zz = z.cells)) → ((Array.range (n * ie.size)).map fun i => zz[i % zz.size]!) = ((Array.range (n * z.cells.size)).map fun i => z.cells[i % z.cells.size]!) := by
    intro zz hzz
    by_cases h0 : n * ie.size = 0
    · rw [hzl, h0]; simp
    · rw [hzz.2 h0, hzl]
  obtain ⟨arr', c', hf, ⟨hp, hk⟩, hsz1, hsz2, hr⟩ := bldW_ok (arr := (Array.range (n * z.cells.size)).map fun i => z.cells[i % z.cells.size]!) (place := fun j => some (j * ie.size, ie.size)) hG hs (fun i k h => ⟨_, _, rfl, h⟩)
    (by simp) (fun j v d hv hd => by
      obtain ⟨q, hq, rfl⟩ := zeros_get hv hd
      have := Array.all_eq_true.1 h1
      obtain ⟨hj, rfl⟩ := Array.getElem?_eq_some_iff.1 hq
      exact ⟨.ro (dS_ok w _ _), this q hj⟩) h
  have hlen : arr'.size = n * ie.size := by rw [hsz2]; simp [hzl]
  obtain ⟨hs', hrep⟩ := new_ro hs (arr := arr') (T := e) (cs := c') hlen (by omega) hm (fun j v d hv hd => ⟨(hr j v d hv hd).1.pure (hp d (List.mem_of_getElem? hd)), (hr j v d hv hd).2⟩)
  refine ⟨.slice (some ⟨w.heap.size, 0, none⟩) n n, w.alloc (.cells arr' e), ?_, φ, _, S, hk, hs', .ro hrep, rfl⟩
  have e1 : (parts.map fun (i, x) => (i, a.eval x)).toList = parts.toList.map fun p => (p.1, a.eval p.2) := by simp
  have hns : ¬ (n * ie.size > 2 ^ 24) := by omega
  simp only [Instr.buildSlice, Sem.run_bind, run_underlying (tyOf_slice ht), Result.andThen_ok, sizeOf, typeInfo, run_program, hie, Sem.run_pure, if_neg hns, e1]
  by_cases h0 : n * ie.size = 0
  · have hr0 := hrange #[] ⟨fun _ => rfl, fun h => absurd h0 h⟩
    rw [if_pos h0]
    simp only [pure_bind]
    rw [hr0, hf]
    simp [newRow]
  · have hr0 := hrange z.cells ⟨fun h => absurd h h0, fun _ => rfl⟩
    rw [if_neg h0]
    simp only [Sem.run_bind, zeroValue, typeInfo, run_program, Result.andThen_ok, hie, hz, Sem.run_pure]
    rw [hr0, hf]
    simp [newRow]

/-- make. -/
theorem makeW_ok (hs : SatC w0 φ S tmps w) {T e : TypeId} (ht : tyOf P T = .slice e) {k1 k2 : IntKind} {n c : Int} {k : D → St → Prop}
    (h : c = n ∧ 0 ≤ n ∧ szW P e fun sz => byW P e fun by_ => roomW n.toNat by_ (zeroW P e fun z => z.length = sz ∧ repW n.toNat z fun c0 => newW S c0 fun S' => k (.osl S.nx sz n.toNat) S')) :
    ∃ v w', (Instr.makeSlice T (.int k1 n) (.int k2 c)).run P w = .ok v w' ∧ Left w0 S tmps k v w' := by
  obtain ⟨rfl, h0, h⟩ := h
  obtain ⟨ie, hie, h⟩ := szW_ok h
  obtain ⟨ib, hib, h⟩ := byW_ok h
  rw [hie] at hib; cases hib
  obtain ⟨hby, hmx, h⟩ := h
  obtain ⟨i', z, hi', hz, h1, hzl, h⟩ := zeroW_ok h
  rw [hie] at hi'; cases hi'
  have hzl : z.cells.size = ie.size := by simpa using hzl
  obtain ⟨m, rfl⟩ := Int.eq_ofNat_of_zero_le h0
  simp only [Int.ofNat_eq_natCast, Int.toNat_natCast] at *
  have hb' : (ie.bytes : Int) * (m : Int) ≤ 281474976710656 := by
    have h : ((ie.bytes * m : Nat) : Int) ≤ 281474976710656 := by rw [Nat.mul_comm]; omega
    rwa [Int.natCast_mul] at h
  have hrun := run_make (P := P) w T e ie z (tyOf_slice ht) hie hz k1 k2 m m (by omega) (Int.le_refl _) hb' (by simp [maxLen] at hmx; omega)
  simp only [Int.toNat_natCast] at hrun
  have hcells : madeCells z.cells (m * ie.size) = (Array.range (m * z.cells.size)).map fun i => z.cells[i % z.cells.size]! := by rw [← hzl]; rfl
  obtain ⟨φ', S', hk, hs', hn, hlo⟩ := newW_ok hs (arr := madeCells z.cells (m * ie.size)) (T := e) (fz := (0, 0)) (fun o _ => by simp) (by rw [hcells]; simp) (fun j v d hv hd => by
    rw [hcells] at hv
    obtain ⟨q, hq, rfl⟩ := zeros_get hv hd
    have := Array.all_eq_true.1 h1
    obtain ⟨hj, rfl⟩ := Array.getElem?_eq_some_iff.1 hq
    exact ⟨.ro (dS_ok w _ _), this q hj, mn_of_repR (dS_ok w (FSx φ S.own w) _) _⟩) h
  refine ⟨_, _, hrun, φ', _, S', hk, hs', ?_, hn⟩
  refine Rep.osl (by rw [hlo]) ?_ (Nat.le_refl _) hmx
  rw [hlo, hcells]; simp [hzl]
end

#print axioms bldW_ok
#print axioms buildSl_ok
end Go.Abs
end
section
namespace Go.Abs
open Go.RowKit (Below)

inductive K where
  | int (k : IntKind) | bool | str
  deriving DecidableEq

def flatK (P : Program) : Nat → TypeId → Option (List K)
  | 0, _ => none
  | d + 1, t =>
    match P.underlying t with
    | some (.int k) => some [.int k]
    | some .bool => some [.bool]
    | some .string => some [.str]
    | some (.array n e) => (flatK P d e).bind fun ks => if ks.length = P.cellsOf e ∧ P.cellsOf t = n * P.cellsOf e then some (List.replicate n ks).flatten else none
    | some (.struct fs) => (fs.toList.foldl (fun acc f => acc.bind fun ks => (flatK P d f.type).bind fun k => if f.offset = ks.length ∧ P.cellsOf f.type = k.length then some (ks ++ k) else none) (some [])).bind fun ks => if P.cellsOf t = ks.length then some ks else none
    | _ => none

inductive Mt : K → Value → Lit → Prop
  | int {k : IntKind} {n : Int} : (Lit.int k n).wf = true → Mt (.int k) (.int k n) (.int k n)
  | bool {b : Bool} : Mt .bool (.bool b) (.bool b)
  | str {s : ByteArray} : s.size ≤ maxLen → Mt .str (.string s) (.string s.data.toList)
inductive M3 : List K → List Value → List Lit → Prop
  | nil : M3 [] [] []
  | cons {k : K} {v : Value} {l : Lit} {ks : List K} {vs : List Value} {ls : List Lit} : Mt k v l → M3 ks vs ls → M3 (k :: ks) (v :: vs) (l :: ls)
theorem M3.len {ks : List K} {vs : List Value} {ls : List Lit} (h : M3 ks vs ls) : vs.length = ks.length ∧ ls.length = ks.length := by
  induction h with
  | nil => exact ⟨rfl, rfl⟩
  | cons _ _ ih => simp [ih]
theorem M3.drop {ks : List K} {vs : List Value} {ls : List Lit} (h : M3 ks vs ls) : ∀ n, M3 (ks.drop n) (vs.drop n) (ls.drop n) := by
  induction h with
  | nil => intro n; simpa using M3.nil
  | cons a h ih => intro n; cases n with
    | zero => exact .cons a h
    | succ n => simpa using ih n
theorem M3.take {ks : List K} {vs : List Value} {ls : List Lit} (h : M3 ks vs ls) : ∀ n, M3 (ks.take n) (vs.take n) (ls.take n) := by
  induction h with
  | nil => intro n; simpa using M3.nil
  | cons a h ih => intro n; cases n with
    | zero => exact .nil
    | succ n => simpa using M3.cons a (ih n)

theorem keyLits_flat {P : Program} : ∀ (d : Nat) (t : TypeId) (ks : List K), flatK P d t = some ks → (P.keyTypeAt d t = true) → ∀ vs ls, M3 ks vs ls → P.keyLits d t vs = some ls
  | 0, _, _, h, _, _, _, _ => by simp [flatK] at h
  | d + 1, t, ks, h, hk, vs, ls, hm => by
    simp only [flatK] at h
    split at h
    · rename_i k hu; cases h
      cases hm with | cons a b => cases b; cases a with | int hw => simp [Program.keyLits, hu, hw]
    · rename_i hu; cases h
      cases hm with | cons a b => cases b; cases a; simp [Program.keyLits, hu]
    · rename_i hu; cases h
      cases hm with | cons a b => cases b; cases a with | str hw => simp [Program.keyLits, hu, hw]
    · rename_i n e hu
      simp only [Option.bind_eq_some_iff] at h
      obtain ⟨ks', hks', h⟩ := h
      split at h
      · rename_i hl
        cases h
        simp only [Program.keyTypeAt, hu] at hk
        have hlen := hm.len
        have hfl : ∀ m, (List.replicate m ks').flatten.length = m * ks'.length := by
          intro m; induction m with
          | zero => simp
          | succ m ih => rw [List.replicate_succ, List.flatten_cons, List.length_append, ih, Nat.succ_mul]; omega
        have hget : ∀ m i, i < m → ((List.replicate m ks').flatten.drop (i * ks'.length)).take ks'.length = ks' := by
          intro m; induction m with
          | zero => intro i hi; omega
          | succ m ih =>
            intro i hi
            rw [List.replicate_succ, List.flatten_cons]
            cases i with
            | zero => simp
            | succ i => rw [show (i + 1) * ks'.length = ks'.length + i * ks'.length by rw [Nat.succ_mul]; omega, ← List.drop_drop, List.drop_left]; exact ih i (by omega)
        have hmap : ∀ (is : List Nat), (∀ i ∈ is, i < n) → (is.mapM fun i => P.keyLits d e ((vs.drop (i * P.cellsOf e)).take (P.cellsOf e))) = some (is.map fun i => (ls.drop (i * P.cellsOf e)).take (P.cellsOf e)) := by
          intro is
          induction is with
          | nil => intro _; rfl
          | cons i is ih =>
            intro hi
            have h1 : P.keyLits d e ((vs.drop (i * P.cellsOf e)).take (P.cellsOf e)) = some ((ls.drop (i * P.cellsOf e)).take (P.cellsOf e)) := by
              refine keyLits_flat d e ks' hks' hk _ _ ?_
              have := (hm.drop (i * ks'.length)).take ks'.length
              rw [hget n i (hi i (by simp))] at this
              rw [← hl.1]; exact this
            rw [List.mapM_cons, h1, ih (fun j hj => hi j (by simp [hj]))]
            rfl
        have hflat : ((List.range n).map fun i => (ls.drop (i * P.cellsOf e)).take (P.cellsOf e)).flatten = ls := by
          have hls : ls.length = n * P.cellsOf e := by rw [hlen.2, hfl, hl.1]
          have key : ∀ m, m ≤ n → ((List.range m).map fun i => (ls.drop (i * P.cellsOf e)).take (P.cellsOf e)).flatten = ls.take (m * P.cellsOf e) := by
            intro m; induction m with
            | zero => intro _; simp
            | succ m ih =>
              intro hmn
              rw [List.range_succ, List.map_append, List.flatten_append, ih (by omega), Nat.succ_mul, List.take_add]
              simp
          rw [key n (Nat.le_refl _), List.take_of_length_le (by omega)]
        simp only [Program.keyLits, hu]
        rw [if_pos (by rw [hlen.1, hfl, hl.2, hl.1]), hmap (List.range n) (fun i hi => by simpa using hi)]
        simp [hflat]
      · cases h
    · rename_i fs hu
      simp only [Option.bind_eq_some_iff] at h
      obtain ⟨ks', hks', h⟩ := h
      split at h
      · rename_i hl
        cases h
        simp only [Program.keyTypeAt, hu, Bool.and_eq_true] at hk
        obtain ⟨⟨hk, _⟩, _⟩ := hk
        have hall : ∀ f ∈ fs.toList, f.name ≠ "_" ∧ P.keyTypeAt d f.type = true := by
          intro f hf
          have := Array.all_eq_true.1 hk
          obtain ⟨i, hi, rfl⟩ := List.getElem_of_mem hf
          have := this i (by simpa using hi)
          simpa using this
        have hnone : ∀ (l : List Field), l.foldl (fun acc f => acc.bind fun ks => (flatK P d f.type).bind fun k => if f.offset = ks.length ∧ P.cellsOf f.type = k.length then some (ks ++ k) else none) none = none := by
          intro l; induction l with
          | nil => rfl
          | cons f l ih => rw [List.foldl_cons]; exact ih
        have key : ∀ (l : List Field) (a : List K), (∀ f ∈ l, f.name ≠ "_" ∧ P.keyTypeAt d f.type = true) → l.foldl (fun acc f => acc.bind fun ks => (flatK P d f.type).bind fun k => if f.offset = ks.length ∧ P.cellsOf f.type = k.length then some (ks ++ k) else none) (some a) = some ks →
            a.length ≤ ks.length ∧ (l.mapM fun f => P.keyLits d f.type ((vs.drop f.offset).take (P.cellsOf f.type))) = some (l.map fun f => (ls.drop f.offset).take (P.cellsOf f.type)) ∧ (l.map fun f => (ls.drop f.offset).take (P.cellsOf f.type)).flatten = ls.drop a.length ∧ a = ks.take a.length := by
          intro l
          induction l with
          | nil =>
            intro a _ h
            simp only [List.foldl_nil, Option.some.injEq] at h
            subst h
            refine ⟨Nat.le_refl _, rfl, ?_, by simp⟩
            rw [List.drop_of_length_le (by rw [hm.len.2]; exact Nat.le_refl _)]; rfl
          | cons f l ih =>
            intro a hl h
            rw [List.foldl_cons] at h
            simp only [Option.bind_some] at h
            cases hf : flatK P d f.type with
            | none => rw [hf, Option.bind_none, hnone] at h; cases h
            | some k =>
              rw [hf, Option.bind_some] at h
              split at h
              · rename_i hcond
                obtain ⟨i1, i2, i3, i4⟩ := ih (a ++ k) (fun g hg => hl g (by simp [hg])) h
                rw [List.length_append] at i1 i3 i4
                have hkk : (ks.drop a.length).take k.length = k := by
                  have : k = ((ks.take (a.length + k.length)).drop a.length) := by rw [← i4]; simp
                  rw [List.drop_take, show a.length + k.length - a.length = k.length by omega] at this
                  exact this.symm
                have h1 : P.keyLits d f.type ((vs.drop f.offset).take (P.cellsOf f.type)) = some ((ls.drop f.offset).take (P.cellsOf f.type)) := by
                  refine keyLits_flat d f.type k hf (hl f (by simp)).2 _ _ ?_
                  have := (hm.drop f.offset).take (P.cellsOf f.type)
                  rw [hcond.1, hcond.2, hkk] at this
                  rw [hcond.1, hcond.2]; exact this
                refine ⟨by omega, ?_, ?_, ?_⟩
                · rw [List.mapM_cons, h1, i2]; rfl
                · rw [List.map_cons, List.flatten_cons, i3, hcond.1, hcond.2, ← List.drop_drop, List.take_append_drop]
                · have := congrArg (List.take a.length) i4
                  rw [List.take_left, List.take_take, Nat.min_eq_left (by omega)] at this
                  exact this
              · rw [hnone] at h; cases h
        obtain ⟨_, h2, h3, _⟩ := key fs.toList [] hall hks'
        simp only [List.length_nil, List.drop_zero] at h3
        have hname : (fs.all fun x => x.name != "_") = true := by
          rw [Array.all_eq_true]
          intro i hi
          have := (hall fs[i] (by simp)).1
          simpa using this
        simp only [Program.keyLits, hu]
        rw [if_pos ⟨by rw [hm.len.1, hl], hname⟩, h2]
        simp [h3]
      · cases h
    · cases h

def kdOf : D → Option K
  | .int k _ => some (.int k)
  | .bool _ => some .bool
  | .str _ => some .str
  | _ => none
def litOf : D → Lit
  | .int k n => .int k n
  | .bool b => .bool b
  | .str s => .string s
  | _ => .bool false
def kdM (cs : List D) (ks : List K) : Prop := cs.map kdOf = ks.map some
theorem kdM_cons (c : D) (cs : List D) (k : K) (ks : List K) : kdM (c :: cs) (k :: ks) = (kdOf c = some k ∧ kdM cs ks) := by simp [kdM]
theorem kdM_bytes (bs : List UInt8) (n : Nat) : kdM (bs.map bD) (List.replicate n (.int .u8)) = (bs.length = n) := by
  apply propext
  unfold kdM
  rw [List.map_map, List.map_replicate]
  constructor
  · intro h; have := congrArg List.length h; simpa using this
  · rintro rfl
    apply List.ext_getElem?
    intro i
    simp only [List.getElem?_map, List.getElem?_replicate]
    by_cases hi : i < bs.length
    · simp [hi, kdOf, bD]
    · simp [hi]

theorem mt_of {w : World} {F : Nat → Prop} {v : Value} {c : D} {k : K} (h : RepR w F v c) (hk : kdOf c = some k) : Mt k v (litOf c) := by
  cases h <;> simp only [kdOf, Option.some.injEq, reduceCtorEq] at hk
  · rename_i a b; subst hk; exact .int (by simp [Lit.wf, a, b])
  · subst hk; exact .bool
  · rename_i b s hb hl; subst hk; subst hb; exact .str (by rw [ba_size]; exact hl)

theorem m3_of {w : World} {F : Nat → Prop} : ∀ {ks : List K} {cs : List D} {vs : List Value}, vs.length = cs.length → (∀ (i : Nat) (v : Value) (d : D), vs[i]? = some v → cs[i]? = some d → RepR w F v d) → kdM cs ks → M3 ks vs (cs.map litOf)
  | [], [], [], _, _, _ => .nil
  | [], c :: cs, _, _, _, h => by simp [kdM] at h
  | k :: ks, [], _, _, _, h => by simp [kdM] at h
  | k :: ks, c :: cs, v :: vs, hl, hr, h => by
    rw [kdM_cons] at h
    exact .cons (mt_of (hr 0 v c rfl rfl) h.1) (m3_of (by simpa using hl) (fun i v d hv hd => hr (i + 1) v d (by simpa using hv) (by simpa using hd)) h.2)
  | [], [], v :: vs, hl, _, _ => by simp at hl
  | k :: ks, c :: cs, [], hl, _, _ => by simp at hl

theorem lit_inj : ∀ {ks : List K} {cs ds : List D}, kdM cs ks → kdM ds ks → (cs.map litOf = ds.map litOf ↔ cs = ds)
  | [], [], [], _, _ => by simp
  | [], c :: cs, _, h, _ => by simp [kdM] at h
  | [], [], d :: ds, _, h => by simp [kdM] at h
  | k :: ks, [], _, h, _ => by simp [kdM] at h
  | k :: ks, c :: cs, [], _, h => by simp [kdM] at h
  | k :: ks, c :: cs, d :: ds, hc, hd => by
    rw [kdM_cons] at hc hd
    have h1 : litOf c = litOf d ↔ c = d := by
      obtain ⟨hc, _⟩ := hc; obtain ⟨hd, _⟩ := hd
      cases c <;> simp only [kdOf, Option.some.injEq, reduceCtorEq] at hc <;> cases d <;> simp only [kdOf, Option.some.injEq, reduceCtorEq] at hd <;> subst hc <;> simp_all [litOf]
    simp only [List.map_cons, List.cons.injEq, h1, lit_inj hc.2 hd.2]

def flkW (P : Program) (t : TypeId) (k : List K → Prop) : Prop :=
  match flatK P 8 t with
  | some ks => P.keyTypeAt 8 t = true ∧ P.eqGuardType P.depth t = false ∧ P.cellsOf t = ks.length ∧ (∃ fs, P.underlying t = some (.struct fs) ∨ ∃ n e, P.underlying t = some (.array n e)) ∧ k ks
  | none => False
noncomputable def eqB (cs ds : List D) : Bool := @decide (cs = ds) (Classical.propDecidable _)
theorem eqB_iff (cs ds : List D) : eqB cs ds = true ↔ cs = ds := by simp [eqB]

/-- The cells of a struct's or an array's value that names no own block. -/
def agC (d : D) (k : List D → Prop) : Prop :=
  match d with
  | .agg cs => k cs
  | .oag cs => allP cs ∧ k cs
  | _ => False
theorem agC_ok {w : World} {φ : Loc} {F : Nat → Prop} {v : Value} {d : D} {k : List D → Prop} (hr : Rep φ w F v d) (h : agC d k) : ∃ vs cs, v = .agg vs ∧ vs.size = cs.length ∧ (∀ (i : Nat) (v : Value) (d : D), vs[i]? = some v → cs[i]? = some d → RepR w F v d) ∧ k cs := by
  cases d with
  | agg cs => cases hr with | ro hr => cases hr with | agg a b c => exact ⟨_, _, rfl, a, c, h⟩
  | oag cs =>
    obtain ⟨hp, h⟩ := h
    cases hr with
    | ro hr => cases hr
    | oag a b c => exact ⟨_, _, rfl, a, fun i v d hv hd => (c i v d hv hd).pure (hp d (List.mem_of_getElem? hd)), h⟩
  | _ => exact h.elim

theorem eqA_ok {P : Program} {w : World} {φ : Loc} {F : Nat → Prop} {t : TypeId} {xv yv : Value} {dx dy : D} (hx : Rep φ w F xv dx) (hy : Rep φ w F yv dy) {k : Bool → Prop}
    (h : agC dx fun cs => agC dy fun ds => flkW P t fun ks => kdM cs ks ∧ kdM ds ks ∧ k (eqB cs ds)) (x y : Operand) :
    ∃ b, k b ∧ (do eqGuard .eql t x y xv yv; binOp .eql t xv yv : Sem Value).run P w = .ok (.bool b) w ∧ (do eqGuard .neq t x y xv yv; binOp .neq t xv yv : Sem Value).run P w = .ok (.bool (!b)) w := by
  obtain ⟨xs, cs, rfl, hxl, hxr, h⟩ := agC_ok hx h
  obtain ⟨ys, ds, rfl, hyl, hyr, h⟩ := agC_ok hy h
  unfold flkW at h
  split at h
  · rename_i ks hks
    obtain ⟨hkt, hg, hsz, hsh, hc, hd, hk⟩ := h
    have lenOf : ∀ {cs : List D}, kdM cs ks → cs.length = ks.length := fun h => by have := congrArg List.length h; simpa using this
    have hx3 := keyLits_flat 8 t ks hks hkt xs.toList (cs.map litOf) (m3_of (by simpa using hxl) (fun i v d hv hd => hxr i v d (by simpa using hv) hd) hc)
    have hy3 := keyLits_flat 8 t ks hks hkt ys.toList (ds.map litOf) (m3_of (by simpa using hyl) (fun i v d hv hd => hyr i v d (by simpa using hv) hd) hd)
    have hfx : (Value.agg xs).formed P t = true := by
      have := lenOf hc
      rcases hsh with ⟨fs, hu | ⟨n, e, hu⟩⟩ <;> simp [Value.formed, hu, hsz, hxl, this]
    have hfy : (Value.agg ys).formed P t = true := by
      have := lenOf hd
      rcases hsh with ⟨fs, hu | ⟨n, e, hu⟩⟩ <;> simp [Value.formed, hu, hsz, hyl, this]
    obtain ⟨r, hr, hiff⟩ := run_equalIn_deep (P := P) 9992 8 t hkt w 8 8 (.agg xs) (.agg ys) _ _ hfx hfy hx3 hy3
    have hb : r = eqB cs ds := by
      rw [Bool.eq_iff_iff, eqB_iff, hiff, lit_inj hc hd]
    subst hb
    have hr : (Op.equalIn 10000 t (.agg xs) (.agg ys)).run P w = .ok (eqB cs ds) w := hr
    refine ⟨_, hk, ?_, ?_⟩
    · rw [Sem.run_bind, run_eqGuard_agg w .eql t x y xs ys hg, Result.andThen_ok, run_eql_struct, hr]; rfl
    · rw [Sem.run_bind, run_eqGuard_agg w .neq t x y xs ys hg, Result.andThen_ok, run_neq_struct, hr]; rfl
  · exact h.elim

#print axioms keyLits_flat
#print axioms eqA_ok
end Go.Abs
end
section
namespace Go.Abs
open Go.RowKit (Below)

/-! ### Operations with two operands -/
def shW (op : BinOp) (kk : IntKind) (x y : Int) (k : D → Prop) : Prop :=
  match op with
  | .shl => 0 ≤ y ∧ k (.int kk (shlI kk x y))
  | .shr => 0 ≤ y ∧ k (.int kk (shrI kk x y))
  | _ => False
def blW (op : BinOp) (a b : Bool) (k : D → Prop) : Prop :=
  match op with
  | .eql => k (.bool (decide (a = b)))
  | .neq => k (.bool (decide (a ≠ b)))
  | _ => False
def agW (P : Program) (op : BinOp) (t : TypeId) (dx dy : D) (k : D → Prop) : Prop :=
  match op with
  | .eql => agC dx fun cs => agC dy fun ds => flkW P t fun ks => kdM cs ks ∧ kdM ds ks ∧ k (.bool (eqB cs ds))
  | .neq => agC dx fun cs => agC dy fun ds => flkW P t fun ks => kdM cs ks ∧ kdM ds ks ∧ k (.bool (!eqB cs ds))
  | _ => False
/-- How many elements a slice has. -/
def slN : D → Option Nat
  | .sl _ n _ | .slx _ n _ | .osl _ _ n | .osw _ _ _ n => some n
  | _ => none
/-- Is it nil? With elements: no. With none: it may be, and may not. -/
def nilW (n : Nat) (k : Bool → Prop) : Prop := (0 < n → k false) ∧ (n = 0 → ∀ b, k b)
def slnW (op : BinOp) (a : D) (k : D → Prop) : Prop :=
  match op, a with
  | .eql, .nils => k (.bool true)
  | .neq, .nils => k (.bool false)
  | .eql, a => ∃ n, slN a = some n ∧ nilW n fun b => k (.bool b)
  | .neq, a => ∃ n, slN a = some n ∧ nilW n fun b => k (.bool !b)
  | _, _ => False
theorem slN_ok {w : World} {φ : Loc} {F : Nat → Prop} {v : Value} {d : D} {n : Nat} (hr : Rep φ w F v d) (h : slN d = some n) : ∃ p c, v = .slice p n c ∧ (0 < n → p.isSome = true) := by
  cases hr with
  | ro hr => cases hr <;> simp only [slN, reduceCtorEq, Option.some.injEq] at h <;> subst h <;> exact ⟨_, _, rfl, by simp⟩
  | osl0 => simp only [slN, Option.some.injEq] at h; subst h; exact ⟨_, _, rfl, by simp⟩
  | osl => simp only [slN, Option.some.injEq] at h; subst h; exact ⟨_, _, rfl, by simp⟩
  | osw0 => simp only [slN, Option.some.injEq] at h; subst h; exact ⟨_, _, rfl, by simp⟩
  | osw => simp only [slN, Option.some.injEq] at h; subst h; exact ⟨_, _, rfl, by simp⟩
  | _ => simp [slN] at h
theorem run_slice_eql {P : Program} {w : World} {t e : TypeId} (ht : P.underlying t = some (.slice e)) (p : Option Addr) (n c : Nat) : (Op.equal t (.slice p n c) (.slice none 0 0)).run P w = .ok (!p.isSome) w := by
  unfold Op.equal Op.maxDepth Op.equalIn
  rw [Sem.run_bind, run_underlying ht, Result.andThen_ok]
  cases p <;> simp
theorem slnW_ok {P : Program} {w : World} {φ : Loc} {F : Nat → Prop} {op : BinOp} {t e : TypeId} (ht : P.underlying t = some (.slice e)) {xv : Value} {dx : D} {k : D → Prop} (hx : Rep φ w F xv dx) (h : slnW op dx k) (x y : Operand) :
    ∃ v d, (do eqGuard op t x y xv (.slice none 0 0); binOp op t xv (.slice none 0 0) : Sem Value).run P w = .ok v w ∧ k d ∧ RepR w F v d := by
  have guard : ∀ (p : Option Addr) (n c : Nat), (eqGuard op t x y (.slice p n c) (.slice none 0 0)).run P w = .ok () w := by
    intro p n c; unfold eqGuard; cases op <;> simp
  have core : ∀ (p : Option Addr) (n c : Nat), xv = .slice p n c → (op = .eql ∧ k (.bool (!p.isSome)) ∨ op = .neq ∧ k (.bool (p.isSome))) → ∃ v d, (do eqGuard op t x y xv (.slice none 0 0); binOp op t xv (.slice none 0 0) : Sem Value).run P w = .ok v w ∧ k d ∧ RepR w F v d := by
    rintro p n c rfl (⟨rfl, hk⟩ | ⟨rfl, hk⟩)
    · refine ⟨.bool (!p.isSome), _, ?_, hk, .bool⟩
      rw [Sem.run_bind, guard, Result.andThen_ok]
      simp [binOp, run_slice_eql ht]
    · refine ⟨.bool (p.isSome), _, ?_, hk, .bool⟩
      rw [Sem.run_bind, guard, Result.andThen_ok]
      simp [binOp, run_slice_eql ht]
  have some_ : ∀ n, slN dx = some n → ∀ kk : Bool → Prop, nilW n kk → ∃ p c, xv = .slice p n c ∧ kk (!p.isSome) := by
    intro n hn kk hk
    obtain ⟨p, c, e, hp⟩ := slN_ok hx hn
    refine ⟨p, c, e, ?_⟩
    rcases Nat.eq_zero_or_pos n with h0 | h0
    · exact hk.2 h0 _
    · rw [hp h0]; exact hk.1 h0
  unfold slnW at h
  split at h
  · have : xv = .slice none 0 0 := by cases hx with | ro h => cases h; rfl
    exact core none 0 0 this (.inl ⟨rfl, h⟩)
  · have : xv = .slice none 0 0 := by cases hx with | ro h => cases h; rfl
    exact core none 0 0 this (.inr ⟨rfl, h⟩)
  · obtain ⟨n, hn, h⟩ := h
    obtain ⟨p, c, e, hk⟩ := some_ n hn _ h
    exact core p n c e (.inl ⟨rfl, hk⟩)
  · obtain ⟨n, hn, h⟩ := h
    obtain ⟨p, c, e, hk⟩ := some_ n hn _ h
    exact core p n c e (.inr ⟨rfl, by simpa using hk⟩)
  · exact h.elim
def isSlW (ty : TY) (A : Prop) : Prop := match ty with | .slice _ => A | _ => False
def bnW (P : Program) (op : BinOp) (xt : TypeId) (a b : D) (k : D → Prop) : Prop :=
  match a, b with
  | .int k1 x, .int k2 y => if isSh op = true then shW op k1 x y k else if k1 = k2 then intW op k1 x y k else False
  | .str a, .str b => strW op a b k
  | .bool a, .bool b => tyOf P xt = .bool ∧ blW op a b k
  | a, .nils => isSlW (tyOf P xt) (slnW op a k)
  | a, b => agW P op xt a b k

theorem run_shift {P : Program} {w : World} {op : BinOp} {k1 k2 : IntKind} {x y : Int} {k : D → Prop} (hx : inR k1 x) (h : shW op k1 x y k) (t : TypeId) : ∃ v d, (binOp op t (.int k1 x) (.int k2 y)).run P w = .ok v w ∧ k d ∧ ∀ F, RepR w F v d := by
  cases op <;> simp only [shW] at h <;> first | (exact h.elim) | skip
  case shl =>
    obtain ⟨h0, hk⟩ := h
    refine ⟨.int k1 (shlI k1 x y), _, ?_, hk, fun F => .int (inR_wrap _ _).1 (inR_wrap _ _).2⟩
    simp [binOp, Op.shift, shlI, Int.not_lt.2 h0]
  case shr =>
    obtain ⟨h0, hk⟩ := h
    refine ⟨.int k1 (shrI k1 x y), _, ?_, hk, fun F => .int (inR_shr hx).1 (inR_shr hx).2⟩
    have hp : (0 : Int) ≤ 2 ^ (min y.toNat k1.bits) := Int.le_of_lt (Int.pow_pos (by decide))
    simp [binOp, Op.shift, shrI, Int.not_lt.2 h0, Int.fdiv_eq_ediv_of_nonneg _ hp]

theorem eqGuard_plain {P : Program} {w : World} (op : BinOp) (t : TypeId) (x y : Operand) {a b : Value} (h : (∃ k n, a = .int k n) ∨ (∃ s, a = .string s) ∨ (∃ s, a = .bool s)) : (eqGuard op t x y a b).run P w = .ok () w := by
  rcases h with ⟨k, n, rfl⟩ | ⟨s, rfl⟩ | ⟨s, rfl⟩ <;> unfold eqGuard <;> cases op <;> simp

theorem bnW_ok {P : Program} {w : World} {φ : Loc} {F : Nat → Prop} {op : BinOp} {t : TypeId} {xv yv : Value} {dx dy : D} {k : D → Prop} (hx : Rep φ w F xv dx) (hy : Rep φ w F yv dy) (h : bnW P op t dx dy k) (x y : Operand) :
    ∃ v d, (do eqGuard op t x y xv yv; binOp op t xv yv : Sem Value).run P w = .ok v w ∧ k d ∧ RepR w F v d := by
  unfold bnW at h
  split at h
  · obtain ⟨rfl, h1⟩ := hx.int_inv
    obtain ⟨rfl, h2⟩ := hy.int_inv
    split at h
    · obtain ⟨v, d, e1, e2, e3⟩ := run_shift (P := P) (w := w) (k2 := _) h1 h t
      exact ⟨v, d, by rw [Sem.run_bind, eqGuard_plain op t x y (.inl ⟨_, _, rfl⟩), Result.andThen_ok]; exact e1, e2, e3 F⟩
    · split at h
      · rename_i hsh e
        subst e
        obtain ⟨v, d, e1, e2, e3⟩ := intW_ok (P := P) (w := w) h1 h2 h (by rintro rfl; exact hsh rfl) (by rintro rfl; exact hsh rfl) t
        exact ⟨v, d, by rw [Sem.run_bind, eqGuard_plain op t x y (.inl ⟨_, _, rfl⟩), Result.andThen_ok]; exact e1, e2, e3 F⟩
      · exact h.elim
  · obtain ⟨b1, rfl, hb1, _⟩ := hx.str_inv
    obtain ⟨b2, rfl, hb2, _⟩ := hy.str_inv
    obtain ⟨v, d, e1, e2, e3⟩ := strW_ok (P := P) (w := w) hb1 hb2 h t
    exact ⟨v, d, by rw [Sem.run_bind, eqGuard_plain op t x y (.inr (.inl ⟨_, rfl⟩)), Result.andThen_ok]; exact e1, e2, e3 F⟩
  · have := hx.bool_inv; subst this
    have := hy.bool_inv; subst this
    obtain ⟨ht, h⟩ := h
    rename_i a b
    have hu := tyOf_bool ht
    cases op <;> simp only [blW] at h <;> first | (exact h.elim) | skip
    case eql =>
      refine ⟨.bool (decide (a = b)), _, ?_, h, .bool⟩
      rw [Sem.run_bind, eqGuard_plain .eql t x y (.inr (.inr ⟨_, rfl⟩)), Result.andThen_ok]
      have e : decide (a = b) = (a == b) := by cases a <;> cases b <;> rfl
      rw [e]
      simp [binOp, Op.equal, Op.maxDepth, run_equalIn_bool' w 9999 t a b hu]
    case neq =>
      refine ⟨.bool (decide (a ≠ b)), _, ?_, h, .bool⟩
      rw [Sem.run_bind, eqGuard_plain .neq t x y (.inr (.inr ⟨_, rfl⟩)), Result.andThen_ok]
      have e : decide (a ≠ b) = !(a == b) := by cases a <;> cases b <;> rfl
      rw [e]
      simp [binOp, Op.equal, Op.maxDepth, run_equalIn_bool' w 9999 t a b hu]
  · have : yv = .slice none 0 0 := by cases hy with | ro h => cases h; rfl
    subst this
    unfold isSlW at h
    split at h
    · rename_i e ht
      exact slnW_ok (tyOf_slice ht) hx h x y
    · exact h.elim
  · cases op <;> simp only [agW] at h <;> first | (exact h.elim) | skip
    case eql =>
      obtain ⟨b, hk, e1, _⟩ := eqA_ok (P := P) hx hy (k := fun b => k (.bool b)) h x y
      exact ⟨_, _, e1, hk, .bool⟩
    case neq =>
      obtain ⟨b, hk, _, e1⟩ := eqA_ok (P := P) hx hy (k := fun b => k (.bool (!b))) h x y
      exact ⟨_, _, e1, hk, .bool⟩

/-! ### Operations with one operand; tuples; places -/
def unW (op : UnOp) (d : D) (k : D → Prop) : Prop :=
  match op, d with
  | .neg, .int kk n => wrW kk (0 - n) k
  | .not, .bool b => k (.bool !b)
  | .xor, .int kk n => k (.int kk (bits .xor kk (if kk.signed = true then -1 else kk.max) n))
  | _, _ => False
theorem unW_ok {P : Program} {w : World} {φ : Loc} {F : Nat → Prop} {op : UnOp} {xv : Value} {d : D} {k : D → Prop} (hx : Rep φ w F xv d) (h : unW op d k) : ∃ v d', (Op.unary op xv).run P w = .ok v w ∧ k d' ∧ RepR w F v d' := by
  unfold unW at h
  split at h
  · obtain ⟨rfl, hin⟩ := hx.int_inv
    rename_i kk n
    exact ⟨.int kk (kk.wrap (0 - n)), _, by simp only [Op.unary, Op.intArith, Sem.run_pure], (wrW_ok h).2, .int (wrW_ok h).1.1 (wrW_ok h).1.2⟩
  · have := hx.bool_inv; subst this
    rename_i b
    exact ⟨.bool (!b), _, by simp only [Op.unary, Sem.run_pure], h, .bool⟩
  · obtain ⟨rfl, _⟩ := hx.int_inv
    exact ⟨_, _, by simp only [Op.unary]; rfl, h, .int (inR_bits _ _ _ _).1 (inR_bits _ _ _ _).2⟩
  · exact h.elim

def exW (d : D) (i : Nat) (k : D → Prop) : Prop := match d with | .tup ds => nthW ds i k | _ => False
theorem exW_ok {P : Program} {w : World} {φ : Loc} {F : Nat → Prop} {xv : Value} {d : D} {i : Nat} {k : D → Prop} (hx : Rep φ w F xv d) (h : exW d i k) : ∃ v d', (Instr.extract xv i).run P w = .ok v w ∧ k d' ∧ RepR w F v d' := by
  cases d with
  | tup ds =>
    obtain ⟨vs, rfl, hl, hr⟩ := hx.tup_inv
    obtain ⟨d', hd, hk⟩ := nthW_ok h
    have hlt : i < vs.size := by rw [hl]; exact (List.getElem?_eq_some_iff.1 hd).1
    exact ⟨vs[i], d', by simp [Instr.extract, hlt], hk, hr i _ d' (by simp [hlt]) hd⟩
  | _ => exact h.elim

def ncW (d : D) (A : Prop) : Prop := match d with | .ptr _ _ | .rop _ _ | .fn _ _ | .ofn _ _ => A | _ => False

def s2aW (n : Nat) (d : D) (k : D → Prop) : Prop :=
  match d with
  | .osl id _ m => 0 < n ∧ n ≤ m ∧ k (.ptr id 0)
  | .osw id off _ m => 0 < n ∧ n ≤ m ∧ k (.ptr id off)
  | .sl _ m cs | .slx _ m cs => 0 < n ∧ n ≤ m ∧ k (.rop cs 0)
  | _ => False
theorem s2aW_ok {P : Program} {w : World} {φ : Loc} {F : Nat → Prop} {T e : TypeId} {n : Nat} (ht : tyOf P T = .arr n e) {xv : Value} {d : D} {k : D → Prop} (hx : Rep φ w F xv d) (h : s2aW n d k) : ∃ v d', (Instr.arrayAt T xv).run P w = .ok v w ∧ k d' ∧ Rep φ w F v d' := by
  have hu := tyOf_arr ht
  have run : ∀ (p : Option Addr) (m c : Nat), n ≤ m → (Instr.arrayAt T (.slice p m c)).run P w = .ok (.pointer p) w := fun p m c hm => by
    simp [Instr.arrayAt, run_underlying hu, Nat.not_lt.2 hm]
  cases d with
  | osl id sz m =>
    obtain ⟨h0, h1, hk⟩ := h
    cases hx with
    | ro hx => cases hx
    | osl0 => omega
    | osl hb => exact ⟨_, _, run _ _ _ h1, hk, .ptr hb⟩
  | osw id off sz m =>
    obtain ⟨h0, h1, hk⟩ := h
    cases hx with
    | ro hx => cases hx
    | osw0 => omega
    | osw hb => exact ⟨_, _, run _ _ _ h1, hk, .ptr hb⟩
  | sl sz m cs =>
    obtain ⟨h0, h1, hk⟩ := h
    cases hx with | ro hx => cases hx with
    | sl0 => omega
    | @sl a _ _ _ _ g a1 a2 a3 a4 a5 a6 a7 =>
      obtain ⟨b, o, s⟩ := a
      simp only at a1; subst a1
      exact ⟨_, _, run _ _ _ h1, hk, .ro (RepR.rop (base := o) (off := 0) g a2 (fun j hj => a6 j (by omega)) a7)⟩
  | slx sz m cs =>
    obtain ⟨h0, h1, hk⟩ := h
    cases hx with | ro hx => cases hx with
    | slx0 => omega
    | @slx a _ _ _ g a1 a2 a3 a5 a6 a7 =>
      obtain ⟨b, o, s⟩ := a
      simp only at a1; subst a1
      exact ⟨_, _, run _ _ _ h1, hk, .ro (RepR.rop (base := o) (off := 0) g a2 (fun j hj => a6 j (by omega)) a7)⟩
  | _ => exact h.elim

/-! ### len, min, max, copy, append -/
def lnW (ty : TY) (d : D) (k : D → Prop) : Prop :=
  match ty, d with
  | .str, .str s => k (.int .i64 s.length)
  | .slice _, .nils => k (.int .i64 0)
  | .slice _, .sl _ n _ | .slice _, .slx _ n _ | .slice _, .osl _ _ n | .slice _, .osw _ _ _ n => k (.int .i64 n)
  | .arr n _, _ => n ≤ maxLen ∧ k (.int .i64 n)
  | _, _ => False
theorem inR_len {n : Nat} (h : n ≤ maxLen) : inR .i64 n := by simp only [maxLen] at h; rw [inR_i64]; omega
theorem lnW_ok {P : Program} {w : World} {φ : Loc} {F : Nat → Prop} {T ty : TypeId} {xv : Value} {d : D} {k : D → Prop} (hx : Rep φ w F xv d) (h : lnW (tyOf P T) d k) : ∃ v d', (Builtin.len_ #[T] ty #[xv]).run P w = .ok v w ∧ k d' ∧ RepR w F v d' := by
  unfold lnW at h
  split at h
  · rename_i s ht
    obtain ⟨b, rfl, hb, hl⟩ := hx.str_inv
    have := inR_len hl
    have hsz : b.size = s.length := by rw [ba_size, hb]
    exact ⟨.int .i64 s.length, _, by simp [Builtin.len_, run_underlying (tyOf_str ht), goInt, hsz], h, .int this.1 this.2⟩
  · rename_i e ht
    have : xv = .slice none 0 0 := by cases hx with | ro h => cases h; rfl
    subst this
    exact ⟨.int .i64 0, _, by simp [Builtin.len_, run_underlying (tyOf_slice ht), goInt], h, .int (by decide) (by decide)⟩
  · rename_i e sz n cs ht
    have : ∃ p c, xv = .slice p n c ∧ n ≤ maxLen := by
      cases hx with | ro h => cases h with
      | sl0 => exact ⟨_, _, rfl, by simp [maxLen]⟩
      | sl g a b c d => exact ⟨_, _, rfl, by omega⟩
    obtain ⟨p, c, rfl, hm⟩ := this
    have := inR_len hm
    exact ⟨.int .i64 n, _, by simp [Builtin.len_, run_underlying (tyOf_slice ht), goInt], h, .int this.1 this.2⟩
  · rename_i e sz n cs ht
    have : ∃ p c, xv = .slice p n c ∧ n ≤ maxLen := by
      cases hx with | ro h => cases h with
      | slx0 => exact ⟨_, _, rfl, by simp [maxLen]⟩
      | slx g a b c d => exact ⟨_, _, rfl, by omega⟩
    obtain ⟨p, c, rfl, hm⟩ := this
    have := inR_len hm
    exact ⟨.int .i64 n, _, by simp [Builtin.len_, run_underlying (tyOf_slice ht), goInt], h, .int this.1 this.2⟩
  · rename_i e id sz n ht
    have : ∃ p c, xv = .slice p n c ∧ n ≤ maxLen := by
      cases hx with
      | ro h => cases h
      | osl0 => exact ⟨_, _, rfl, by simp [maxLen]⟩
      | osl => exact ⟨_, _, rfl, by omega⟩
    obtain ⟨p, c, rfl, hm⟩ := this
    have := inR_len hm
    exact ⟨.int .i64 n, _, by simp [Builtin.len_, run_underlying (tyOf_slice ht), goInt], h, .int this.1 this.2⟩
  · rename_i e id off sz n ht
    have : ∃ p c, xv = .slice p n c ∧ n ≤ maxLen := by
      cases hx with
      | ro h => cases h
      | osw0 => exact ⟨_, _, rfl, by simp [maxLen]⟩
      | osw => exact ⟨_, _, rfl, by omega⟩
    obtain ⟨p, c, rfl, hm⟩ := this
    have := inR_len hm
    exact ⟨.int .i64 n, _, by simp [Builtin.len_, run_underlying (tyOf_slice ht), goInt], h, .int this.1 this.2⟩
  · rename_i d' n e ht
    have := inR_len h.1
    exact ⟨.int .i64 n, _, by cases xv <;> simp [Builtin.len_, run_underlying (tyOf_arr ht), goInt], h.2, .int this.1 this.2⟩
  · exact h.elim

def mxW (isMax : Bool) : D → List D → (D → Prop) → Prop
  | d, [], k => k d
  | .int k1 a, .int k2 b :: r, k => k1 = k2 ∧ mxW isMax (.int k1 (if isMax = true then max a b else min a b)) r k
  | _, _, _ => False
theorem mxW_ok {P : Program} {w : World} {φ : Loc} {F : Nat → Prop} {isMax : Bool} : ∀ {ds : List D} {d : D} {vs : List Value} {v : Value} {k : D → Prop}, vs.length = ds.length → Rep φ w F v d → (∀ (i : Nat) (v : Value) (d : D), vs[i]? = some v → ds[i]? = some d → Rep φ w F v d) → mxW isMax d ds k →
    ∃ v' d', (vs.foldlM (if isMax = true then Builtin.max2 else Builtin.min2) v).run P w = .ok v' w ∧ k d' ∧ Rep φ w F v' d'
  | [], d, [], v, k, _, hd, _, h => by
    have : k d := by cases d <;> exact h
    exact ⟨v, d, by simp, this, hd⟩
  | e :: ds, d, [], v, k, hl, _, _, _ => by simp at hl
  | [], d, x :: vs, v, k, hl, _, _, _ => by simp at hl
  | e :: ds, d, x :: vs, v, k, hl, hd, hr, h => by
    cases d with
    | int k1 a =>
      cases e with
      | int k2 b =>
        obtain ⟨rfl, h⟩ := h
        obtain ⟨rfl, h1⟩ := hd.int_inv
        obtain ⟨rfl, h2⟩ := (hr 0 x _ rfl rfl).int_inv
        have hin : inR k1 (if isMax = true then max a b else min a b) := by
          unfold inR at *
          split <;> omega
        obtain ⟨v', d', e1, e2, e3⟩ := mxW_ok (isMax := isMax) (vs := vs) (v := .int k1 (if isMax = true then max a b else min a b)) (by simpa using hl) (.ro (.int hin.1 hin.2)) (fun i v d hv hd => hr (i + 1) v d (by simpa using hv) (by simpa using hd)) h
        refine ⟨v', d', ?_, e2, e3⟩
        rw [List.foldlM_cons, Sem.run_bind]
        have e0 : ((if isMax = true then Builtin.max2 else Builtin.min2) (.int k1 a) (.int k1 b)).run P w = .ok (.int k1 (if isMax = true then max a b else min a b)) w := by
          cases isMax
          · simp only [Bool.false_eq_true, if_false, Builtin.min2, Sem.run_pure]
            congr 2; simp only [Int.min_def]; split <;> split <;> omega
          · simp only [if_true, Builtin.max2, Sem.run_pure]
            congr 2; simp only [Int.max_def]; split <;> split <;> omega
        rw [e0]; exact e1
      | _ => exact absurd h (by simp [mxW])
    | _ => exact absurd h (by simp [mxW])

#print axioms bnW_ok
#print axioms mxW_ok
end Go.Abs
end
section
namespace Go.Abs
open Go.RowKit (Below)

/-! ### Calls -/
def evLW (G : Glob) (S : St) : List Operand → (List D → Prop) → Prop
  | [], k => k []
  | x :: r, k => evW G S x fun d => evLW G S r fun ds => k (d :: ds)
theorem evLW_ok {G : Glob} {w0 : Bas} {w : World} {φ : Loc} {S : St} {a : Act} (hG : GOk G w0) (hs : SatC w0 φ S a.tmps w) : ∀ {xs : List Operand} {k : List D → Prop}, evLW G S xs k →
    ∃ ds, k ds ∧ (xs.map a.eval).length = ds.length ∧ ∀ (i : Nat) (v : Value) (d : D), (xs.map a.eval)[i]? = some v → ds[i]? = some d → Rep φ w (FSx φ S.own w) v d
  | [], k, h => ⟨[], h, rfl, fun i v d hv => by simp at hv⟩
  | x :: r, k, h => by
    obtain ⟨d, h, hd⟩ := evW_ok hG hs h
    obtain ⟨ds, hk, hl, hr⟩ := evLW_ok hG hs h
    refine ⟨d :: ds, hk, by simpa using hl, fun i v e hv he => ?_⟩
    cases i with
    | zero => simp at hv he; subst hv; subst he; exact hd
    | succ i => exact hr i v e (by simpa using hv) (by simpa using he)
def evAW (G : Glob) (S : St) (xs : Array Operand) (k : List D → Prop) : Prop := evLW G S xs.toList k
def evOW (G : Glob) (S : St) (x : Option Operand) (k : Option D → Prop) : Prop := match x with | none => k none | some x => evW G S x fun d => k (some d)

/-- Data that leads to no memory. -/
def flS : D → Bool
  | .int _ _ | .bool _ | .str _ | .nils | .any => true
  | _ => false
def flA : D → Prop
  | .agg cs => ∀ c ∈ cs, flS c = true
  | d => flS d = true
def flD : D → Prop
  | .tup ds => ∀ d ∈ ds, flA d
  | d => flA d
theorem RepR.flS {w w' : World} {F F' : Nat → Prop} {v : Value} {d : D} (h : RepR w F v d) (hf : Abs.flS d = true) : RepR w' F' v d := by
  cases h with
  | any => exact .any _
  | int a b => exact .int a b
  | bool => exact .bool
  | str a b => exact .str a b
  | nils => exact .nils
  | _ => simp [Abs.flS] at hf
theorem RepR.flA {w w' : World} {F F' : Nat → Prop} {v : Value} {d : D} (h : RepR w F v d) (hf : Abs.flA d) : RepR w' F' v d := by
  cases d with
  | agg cs => cases h with | agg a b c => exact .agg a b fun i v d hv hd => (c i v d hv hd).flS (hf d (List.mem_of_getElem? hd))
  | _ => exact h.flS hf
theorem RepR.flD {w w' : World} {F F' : Nat → Prop} {v : Value} {d : D} (h : RepR w F v d) (hf : Abs.flD d) : RepR w' F' v d := by
  cases d with
  | tup cs => cases h with | tup a c => exact .tup a fun i v d hv hd => (c i v d hv hd).flA (hf d (List.mem_of_getElem? hd))
  | _ => exact h.flA hf

def lentW (b : Bool) (A : Prop) : Prop := b = true → A
/-! ### An own block is from here on only read -/
def frzD (id : Nat) (c : List D) (d : D) (k : D → Prop) : Prop :=
  match d with
  | .ptr i off => (i = id → k (.rop c off)) ∧ (¬ i = id → k (.ptr i off))
  | .osl i sz n => (i = id → c.length = n * sz ∧ k (.sl sz n c)) ∧ (¬ i = id → k (.osl i sz n))
  | .osw i off sz n => (i = id → off + n * sz ≤ c.length ∧ k (.sl sz n ((c.drop off).take (n * sz)))) ∧ (¬ i = id → k (.osw i off sz n))
  | .oag _ | .ofn _ _ => k .any
  | d => k d
def frzE (id : Nat) (c : List D) : List (Nat × D) → (List (Nat × D) → Prop) → Prop
  | [], k => k []
  | (s, d) :: r, k => frzD id c d fun d' => frzE id c r fun r' => k ((s, d') :: r')
def frzC (id : Nat) (c : List D) : List D → (List D → Prop) → Prop
  | [], k => k []
  | d :: r, k => frzD id c d fun d' => frzC id c r fun r' => k (d' :: r')
def frzO (id : Nat) (c : List D) : List (Nat × List D) → (List (Nat × List D) → Prop) → Prop
  | [], k => k []
  | (i, x) :: r, k => (i = id → frzO id c r k) ∧ (¬ i = id → frzC id c x fun x' => frzO id c r fun r' => k ((i, x') :: r'))
def frzW (id : Nat) (S : St) (k : St → Prop) : Prop :=
  lkoW id S.own fun c => allP c ∧ frzE id c S.env fun env' => frzO id c S.own fun own' => k ⟨S.n, S.nx, env', own'⟩

theorem frzD_ok {id : Nat} {c : List D} {d : D} {k : D → Prop} (h : frzD id c d k) : ∃ d', k d' ∧ frzD id c d (fun x => x = d') := by
  cases d <;> simp only [frzD] at h ⊢ <;> first | exact ⟨_, h, rfl⟩ | skip
  · rename_i i off
    by_cases e : i = id
    · exact ⟨_, h.1 e, fun _ => rfl, fun h => absurd e h⟩
    · exact ⟨_, h.2 e, fun h => absurd h e, fun _ => rfl⟩
  · rename_i i sz n
    by_cases e : i = id
    · exact ⟨_, (h.1 e).2, fun _ => ⟨(h.1 e).1, rfl⟩, fun h => absurd e h⟩
    · exact ⟨_, h.2 e, fun h => absurd h e, fun _ => rfl⟩
  · rename_i i off sz n
    by_cases e : i = id
    · exact ⟨_, (h.1 e).2, fun _ => ⟨(h.1 e).1, rfl⟩, fun h => absurd e h⟩
    · exact ⟨_, h.2 e, fun h => absurd h e, fun _ => rfl⟩
theorem frzE_ok {id : Nat} {c : List D} : ∀ {env : List (Nat × D)} {k : List (Nat × D) → Prop}, frzE id c env k → ∃ env', k env' ∧ ∀ s d', lk s env' = some d' → ∃ d, lk s env = some d ∧ frzD id c d (fun x => x = d')
  | [], k, h => ⟨[], h, fun s d' hd => by simp [lk] at hd⟩
  | (t, d) :: r, k, h => by
    obtain ⟨d', h, hd⟩ := frzD_ok h
    obtain ⟨r', h, hr⟩ := frzE_ok h
    refine ⟨_, h, fun s e he => ?_⟩
    simp only [lk] at he ⊢
    split at he
    · rename_i e1; cases he; exact ⟨d, by rw [if_pos e1], hd⟩
    · rename_i e1; obtain ⟨x, hx, hx2⟩ := hr s e he; exact ⟨x, by rw [if_neg e1]; exact hx, hx2⟩
theorem frzC_ok {id : Nat} {c : List D} : ∀ {x : List D} {k : List D → Prop}, frzC id c x k → ∃ x', k x' ∧ x'.length = x.length ∧ ∀ (j : Nat) (d' : D), x'[j]? = some d' → ∃ d, x[j]? = some d ∧ frzD id c d (fun x => x = d')
  | [], k, h => ⟨[], h, rfl, fun j d' hd => by simp at hd⟩
  | d :: r, k, h => by
    obtain ⟨d', h, hd⟩ := frzD_ok h
    obtain ⟨r', h, hl, hr⟩ := frzC_ok h
    refine ⟨_, h, by simp [hl], fun j e he => ?_⟩
    cases j with
    | zero => simp at he; subst he; exact ⟨d, rfl, hd⟩
    | succ j => obtain ⟨q, q1, q2⟩ := hr j e (by simpa using he); exact ⟨q, by simpa using q1, q2⟩
theorem frzO_ok {id : Nat} {c : List D} : ∀ {own : List (Nat × List D)} {k : List (Nat × List D) → Prop}, frzO id c own k → ∃ own', k own' ∧ ∀ i x', lk i own' = some x' → i ≠ id ∧ ∃ x, lk i own = some x ∧ x'.length = x.length ∧ ∀ (j : Nat) (d' : D), x'[j]? = some d' → ∃ d, x[j]? = some d ∧ frzD id c d (fun x => x = d')
  | [], k, h => ⟨[], h, fun s d' hd => by simp [lk] at hd⟩
  | (j, x) :: r, k, h => by
    by_cases e : j = id
    · obtain ⟨own', hk, ho⟩ := frzO_ok (h.1 e)
      refine ⟨own', hk, fun i x hx => ?_⟩
      obtain ⟨h2, x0, h1, h3⟩ := ho i x hx
      exact ⟨h2, x0, by simp only [lk]; rw [if_neg (by rw [e]; exact h2)]; exact h1, h3⟩
    · obtain ⟨x', h, hl, hx'⟩ := frzC_ok (h.2 e)
      obtain ⟨own', hk, ho⟩ := frzO_ok h
      refine ⟨_, hk, fun i y hy => ?_⟩
      simp only [lk] at hy ⊢
      split at hy
      · rename_i e1; cases hy; exact ⟨by rw [e1]; exact e, x, by rw [if_pos e1], hl, hx'⟩
      · rename_i e1; obtain ⟨h2, x0, h1, h3⟩ := ho i y hy; exact ⟨h2, x0, by rw [if_neg e1]; exact h1, h3⟩
theorem frzD_rep {w0 : Bas} {w : World} {φ : Loc} {S : St} {tmps : Array Value} (hs : SatC w0 φ S tmps w) {id : Nat} {c : List D} {own' : List (Nat × List D)} (hc : lk id S.own = some c) (hp : allP c) (hF : ∀ b, FSx φ S.own w b → FSx φ own' w b) (hB : ∀ b, (φ id).1 = some b → FSx φ own' w b)
    {v : Value} {d d' : D} (hr : Rep φ w (FSx φ S.own w) v d) (hz : frzD id c d (fun x => x = d')) : Rep φ w (FSx φ own' w) v d' := by
  have hr' := hr.mono (fun _ _ => rfl) hF
  cases d with
  | ptr i off =>
    by_cases e : i = id
    · subst e
      have hz := hz.1 rfl; subst hz
      cases hr with
      | ro hr => cases hr
      | ptr hb =>
        obtain ⟨arr, T, fz, h1, h2, h3, h4, h5, h6⟩ := own_cells hs hc hb
        have := RepR.rop (w := w) (F := FSx φ own' w) (b := _) (base := 0) (off := off) (cs := c) (fun j => arr.getD j undef) (hB _ hb)
          (fun j hj => ⟨by rw [Nat.zero_add]; exact h5 j hj, by obtain ⟨d, hd⟩ : ∃ d, c[j]? = some d := ⟨c[j], by simp [hj]⟩; exact (h6 j d hd).2⟩)
          (fun j d hd => ((h6 j d hd).1.pure (hp d (List.mem_of_getElem? hd))).mono (fun _ _ => rfl) hF)
        exact .ro (by simpa using this)
    · have hz := hz.2 e; subst hz; exact hr'
  | osl i sz n =>
    by_cases e : i = id
    · subst e
      obtain ⟨hl, hz⟩ := hz.1 rfl; subst hz
      cases hr with
      | ro hr => cases hr
      | osl0 hb =>
        have : c = [] := List.eq_nil_of_length_eq_zero (by simpa using hl)
        subst this
        exact .ro (.sl0 (by simp [maxLen]))
      | osl hb he hn hm =>
        obtain ⟨arr, T, fz, h1, h2, h3, h4, h5, h6⟩ := own_cells hs hc hb
        exact .ro (.sl (fun j => arr.getD j undef) rfl (hB _ hb) hn hm hl
          (fun j hj => ⟨by rw [Nat.zero_add]; exact h5 j (by omega), by obtain ⟨d, hd⟩ : ∃ d, c[j]? = some d := ⟨c[j]'(by omega), by simp⟩; exact (h6 j d hd).2⟩)
          (fun j d hd => ((h6 j d hd).1.pure (hp d (List.mem_of_getElem? hd))).mono (fun _ _ => rfl) hF))
    · have hz := hz.2 e; subst hz; exact hr'
  | osw i off sz n =>
    by_cases e : i = id
    · subst e
      obtain ⟨hl, hz⟩ := hz.1 rfl; subst hz
      cases hr with
      | ro hr => cases hr
      | osw0 hc => rw [Nat.zero_mul, List.take_zero]; exact .ro (.sl0 hc)
      | osw hb hn hm hsz =>
        obtain ⟨arr, T, fz, h1, h2, h3, h4, h5, h6⟩ := own_cells hs hc hb
        refine .ro (.sl (fun j => arr.getD (off + j) undef) rfl (hB _ hb) hn hm (by simp; omega)
          (fun j hj => ⟨h5 (off + j) (by omega), by obtain ⟨d, hd⟩ : ∃ d, c[off + j]? = some d := ⟨c[off + j]'(by omega), by simp⟩; exact (h6 _ d hd).2⟩)
          (fun j d hd => ?_))
        simp only [List.getElem?_take, List.getElem?_drop] at hd
        split at hd
        · exact ((h6 _ d hd).1.pure (hp d (List.mem_of_getElem? hd))).mono (fun _ _ => rfl) hF
        · cases hd
    · have hz := hz.2 e; subst hz; exact hr'
  | oag cs => simp only [frzD] at hz; subst hz; exact .ro (.any _)
  | ofn f cs => simp only [frzD] at hz; subst hz; exact .ro (.any _)
  | _ => simp only [frzD] at hz; subst hz; exact hr'

theorem frz_ok {w0 : Bas} {w : World} {φ : Loc} {S : St} {tmps : Array Value} (hs : SatC w0 φ S tmps w) {id : Nat} {k : St → Prop} (h : frzW id S k) :
    ∃ S', k S' ∧ SatC w0 φ S' tmps w ∧ S'.n = S.n ∧ ∀ b, FSx φ S.own w b → FSx φ S'.own w b := by
  obtain ⟨c, hc, hp, h⟩ := lkoW_ok h
  obtain ⟨env', h, he⟩ := frzE_ok h
  obtain ⟨own', h, ho⟩ := frzO_ok h
  have ho' : ∀ i x, lk i own' = some x → ∃ x0, lk i S.own = some x0 := fun i x hx => by obtain ⟨_, x0, h1, _⟩ := ho i x hx; exact ⟨x0, h1⟩
  have hF : ∀ b, FSx φ S.own w b → FSx φ own' w b := fun b hb => ⟨hb.1, fun i x hx => by obtain ⟨x0, h0⟩ := ho' i x hx; exact hb.2 i x0 h0, hb.3⟩
  have hB : ∀ b, (φ id).1 = some b → FSx φ own' w b := fun b hb => ⟨(hs.own id c hc).1.lt hb, fun i x hx e => by obtain ⟨hne, x0, h0, _⟩ := ho i x hx; exact hne (hs.inj i id x0 c b h0 hc e hb), (own_FL hs hc hb).1⟩
  refine ⟨_, h, ⟨hs.below, hs.size, fun i x hx => ?_, fun i i' x x' b h1 h2 => ?_, fun s d' hd => ?_, hs.base, hs.pin⟩, rfl, hF⟩
  · obtain ⟨_, x0, h0, hl, hx0⟩ := ho i x hx
    obtain ⟨h1, h2⟩ := hs.own i x0 h0
    refine ⟨?_, h2⟩
    unfold OwnOk at h1 ⊢
    revert h1
    cases (φ i).1 with
    | none =>
      rintro ⟨h, h'⟩
      refine ⟨fun j d hd => ?_, h'⟩
      obtain ⟨d0, e0, hz⟩ := hx0 j d hd
      obtain ⟨v, a1, a2⟩ := h j d0 e0
      exact ⟨v, a1, frzD_rep hs hc hp hF hB a2 hz⟩
    | some b =>
      rintro ⟨arr, T, fz, a1, a2, a3, a4, a5⟩
      refine ⟨arr, T, fz, a1, a2, a3, by rw [hl]; exact a4, fun j v d hv hd => ?_⟩
      obtain ⟨d0, e0, hz⟩ := hx0 j d hd
      exact ⟨frzD_rep hs hc hp hF hB (a5 j v d0 hv e0).1 hz, (a5 j v d0 hv e0).2⟩
  · obtain ⟨x0, h0⟩ := ho' i x h1
    obtain ⟨x0', h0'⟩ := ho' i' x' h2
    exact hs.inj i i' x0 x0' b h0 h0'
  · obtain ⟨d, hd, hz⟩ := he s d' hd
    obtain ⟨v, hv, hr⟩ := hs.env s d hd
    exact ⟨v, hv, frzD_rep hs hc hp hF hB hr hz⟩

/-- .. what it returns lies in new memory. -/
def FnF (G : Glob) (P : Program) (f : FuncId) (ds : List D) (d : D) : Prop :=
  Callable P f ∧ ∀ (b0 : Bas) (vs : List Value), b0.G = G → (∀ b, ¬ b0.lent b) → FArgs b0.w (fun b => b0.base b ∧ b < b0.w.heap.size) vs ds →
    Calls P f vs.toArray b0.w fun e w' => ∃ v, e = .returned v ∧ RepR w' (fun b => b0.w.heap.size ≤ b ∧ b < w'.heap.size) v d ∧ Below b0.w.heap.size b0.w w'
theorem FnF.fn {G : Glob} {P : Program} {f : FuncId} {ds : List D} {d : D} (h : FnF G P f ds d) : Fn G P f ds d :=
  ⟨h.1, fun b0 vs hG hL ha => (h.2 b0 vs hG hL ha).mono fun _ _ ⟨v, h1, h2, h3⟩ => ⟨v, h1, h2.mono (fun _ _ => rfl) fun b hb => ⟨b0.new b hb.1, hb.2⟩, h3⟩⟩
def wkE (env : List (Nat × D)) : List (Nat × D) → Prop
  | [] => True
  | (s, d) :: r => lkW s env (fun d' => d' = d) ∧ wkE env r
theorem wkE_ok {env : List (Nat × D)} : ∀ {l : List (Nat × D)}, wkE env l → ∀ s d, lk s l = some d → lk s env = some d
  | [], _, s, d, h => by simp [lk] at h
  | (t, e) :: r, ⟨h1, h2⟩, s, d, h => by
    simp only [lk] at h
    split at h
    · rename_i e1; cases h; subst e1
      obtain ⟨d', hd, rfl⟩ := lkW_ok h1; exact hd
    · exact wkE_ok h2 s d h
def envF : Nat → List D → List (Nat × D)
  | _, [] => []
  | i, d :: ds => (i, d) :: envF (i + 1) ds
theorem envF_ok {ds : List D} : ∀ {i : Nat} {s : Nat} {d : D}, lk s (envF i ds) = some d → ∃ j, s = i + j ∧ ds[j]? = some d := by
  induction ds with
  | nil => intro i s d h; simp [envF, lk] at h
  | cons e r ih =>
    intro i s d h
    simp only [envF, lk] at h
    split at h
    · rename_i e1; cases h; exact ⟨0, by omega, rfl⟩
    · obtain ⟨j, h1, h2⟩ := ih h; exact ⟨j + 1, by omega, by simpa using h2⟩

/-! ### A frame that is laid aside -/
/-! ### What a function makes: a value that names blocks of its own -/
def shS (k : Nat) : D → D
  | .ptr i o => .ptr (i + k) o
  | .osl i s n => .osl (i + k) s n
  | .osw i o s n => .osw (i + k) o s n
  | d => d
def shD (k : Nat) : D → D
  | .ptr i o => .ptr (i + k) o
  | .osl i s n => .osl (i + k) s n
  | .osw i o s n => .osw (i + k) o s n
  | .oag cs => .oag (cs.map (shS k))
  | d => d
def shO (k : Nat) : List (Nat × List D) → List (Nat × List D)
  | [] => []
  | (i, c) :: r => (i + k, c.map (shS k)) :: shO k r
/-- It names no block but such as have a number below m. -/
def ltS (m : Nat) : D → Prop
  | .ptr i _ | .osl i _ _ | .osw i _ _ _ => i < m
  | .oag _ | .ofn _ _ => False
  | _ => True
def ltL (m : Nat) : List D → Prop
  | [] => True
  | d :: r => ltS m d ∧ ltL m r
def ltD (m : Nat) : D → Prop
  | .oag cs => ltL m cs
  | d => ltS m d
def ltO (m : Nat) : List (Nat × List D) → Prop
  | [] => True
  | (i, c) :: r => i < m ∧ ltL m c ∧ ltO m r
theorem ltL_ok {m : Nat} : ∀ {cs : List D}, ltL m cs → ∀ c ∈ cs, ltS m c
  | [], _, c, h => by simp at h
  | d :: r, h, c, hc => by
    rcases List.mem_cons.1 hc with rfl | hc
    · exact h.1
    · exact ltL_ok h.2 c hc
theorem ltO_ok {m : Nat} : ∀ {O : List (Nat × List D)}, ltO m O → ∀ i c, lk i O = some c → i < m ∧ ltL m c
  | [], _, i, c, h => by simp [lk] at h
  | (j, x) :: r, h, i, c, hc => by
    simp only [lk] at hc
    split at hc
    · rename_i e; cases hc; subst e; exact ⟨h.1, h.2.1⟩
    · exact ltO_ok h.2.2 i c hc
theorem lk_shO {k : Nat} : ∀ {O : List (Nat × List D)} {i : Nat} {c : List D}, lk i (shO k O) = some c → ∃ j c0, i = j + k ∧ lk j O = some c0 ∧ c = c0.map (shS k)
  | [], i, c, h => by simp [shO, lk] at h
  | (j, x) :: r, i, c, h => by
    simp only [shO, lk] at h
    split at h
    · rename_i e; cases h; exact ⟨j, x, e, by simp [lk], rfl⟩
    · rename_i e
      obtain ⟨j', c0, h1, h2, h3⟩ := lk_shO h
      exact ⟨j', c0, h1, by simp only [lk]; rw [if_neg (by omega)]; exact h2, h3⟩
theorem Rep.shS {φ φ2 : Loc} {k m : Nat} (hφ : ∀ i, i < m → φ2 (i + k) = φ i) {w : World} {F : Nat → Prop} {v : Value} {d : D} (h : Rep φ w F v d) (hl : ltS m d) : Rep φ2 w F v (Abs.shS k d) := by
  cases h with
  | ro h =>
    have : Abs.shS k d = d := by cases d <;> first | rfl | cases h
    rw [this]; exact .ro h
  | ptr a => exact .ptr (by rw [hφ _ hl]; exact a)
  | osl0 a => exact .osl0 (by rw [hφ _ hl]; exact a)
  | osl a b c d => exact .osl (by rw [hφ _ hl]; exact a) (by rw [hφ _ hl]; exact b) c d
  | osw0 a => exact .osw0 a
  | osw a b c d => exact .osw (by rw [hφ _ hl]; exact a) b c (by rw [hφ _ hl]; exact d)
  | oag a b c => exact hl.elim
  | ofn a b => exact hl.elim
theorem Rep.shD {φ φ2 : Loc} {k m : Nat} (hφ : ∀ i, i < m → φ2 (i + k) = φ i) {w : World} {F : Nat → Prop} {v : Value} {d : D} (h : Rep φ w F v d) (hl : ltD m d) : Rep φ2 w F v (Abs.shD k d) := by
  cases h with
  | ro h =>
    have : Abs.shD k d = d := by cases d <;> first | rfl | cases h
    rw [this]; exact .ro h
  | ptr a => exact .ptr (by rw [hφ _ hl]; exact a)
  | osl0 a => exact .osl0 (by rw [hφ _ hl]; exact a)
  | osl a b c d => exact .osl (by rw [hφ _ hl]; exact a) (by rw [hφ _ hl]; exact b) c d
  | osw0 a => exact .osw0 a
  | osw a b c d => exact .osw (by rw [hφ _ hl]; exact a) b c (by rw [hφ _ hl]; exact d)
  | @oag vs cs a b c =>
    refine .oag (by simpa using a) b fun i v d hv hd => ?_
    rw [List.getElem?_map] at hd
    cases e : cs[i]? with
    | none => rw [e] at hd; cases hd
    | some d0 =>
      rw [e] at hd
      obtain rfl : Abs.shS k d0 = d := Option.some.inj hd
      exact (c i v d0 hv e).shS hφ (ltL_ok hl d0 (List.mem_of_getElem? e))
  | ofn a b => exact hl.elim
/-- What names only blocks that lie where they lay reads as before. -/
theorem Rep.cgS {φ φ2 : Loc} {w : World} {F : Nat → Prop} {v : Value} {d : D} (h : Rep φ w F v d) (hφ : ∀ i, mnS i d = true → φ2 i = φ i) : Rep φ2 w F v d := by
  cases h with
  | ro h => exact .ro h
  | ptr a => exact .ptr (by rw [hφ _ (by simp [mnS])]; exact a)
  | osl0 a => exact .osl0 (by rw [hφ _ (by simp [mnS])]; exact a)
  | osl a b c d => exact .osl (by rw [hφ _ (by simp [mnS])]; exact a) (by rw [hφ _ (by simp [mnS])]; exact b) c d
  | osw0 a => exact .osw0 a
  | osw a b c d => exact .osw (by rw [hφ _ (by simp [mnS])]; exact a) b c (by rw [hφ _ (by simp [mnS])]; exact d)
  | oag a b c => exact (Rep.oag a b c).at fun i => hφ i rfl
  | ofn a b => exact (Rep.ofn a b).at fun i => hφ i rfl
theorem Rep.cg {φ φ2 : Loc} {w : World} {F : Nat → Prop} {v : Value} {d : D} (h : Rep φ w F v d) (hφ : ∀ i, mn i d = true → φ2 i = φ i) : Rep φ2 w F v d := by
  cases h with
  | ro h => exact .ro h
  | ptr a => exact Rep.cgS (.ptr a) (by simpa [mnS, mn] using hφ)
  | osl0 a => exact Rep.cgS (.osl0 a) (by simpa [mnS, mn] using hφ)
  | osl a b c d => exact Rep.cgS (.osl a b c d) (by simpa [mnS, mn] using hφ)
  | osw0 a => exact .osw0 a
  | osw a b c d => exact Rep.cgS (.osw a b c d) (by simpa [mnS, mn] using hφ)
  | oag a b c => exact .oag a b fun i v d hv hd => (c i v d hv hd).cgS fun j hj => hφ j (by simp only [mn, List.any_eq_true]; exact ⟨d, List.mem_of_getElem? hd, hj⟩)
  | ofn a b => exact .ofn a fun i v d hv hd => (b i v d hv hd).cgS fun j hj => hφ j (by simp only [mn, List.any_eq_true]; exact ⟨d, List.mem_of_getElem? hd, hj⟩)

/-- Names below m, and no others, are named. -/
def FnO (G : Glob) (P : Program) (f : FuncId) (ds : List D) (m : Nat) (d : D) (os : List (Nat × List D)) : Prop :=
  Callable P f ∧ ∀ (b0 : Bas) (vs : List Value), b0.G = G → (∀ b, ¬ b0.lent b) → (∀ i j, b0.base.gh i j = none) → FArgs b0.w (fun b => b0.base b ∧ b < b0.w.heap.size) vs ds →
    Calls P f vs.toArray b0.w fun e w' => ∃ v φ, e = .returned v ∧ Below b0.w.heap.size b0.w w' ∧ φ.base = b0.base ∧ (∀ i c, lk i os = some c → OwnOk w' (FSx φ os w') φ i c ∧ ∀ b, (φ i).1 = some b → b0.w.heap.size ≤ b) ∧
      (∀ i i' c c' b, lk i os = some c → lk i' os = some c' → (φ i).1 = some b → (φ i').1 = some b → i = i') ∧ Rep φ w' (FSx φ os w') v d
/-! ### What names no block from a number on -/
def nmR (a : Nat) (d : D) : Prop := ∀ i, a ≤ i → i < pinB → mn i d = false
def nmRL (a : Nat) (cs : List D) : Prop := ∀ d ∈ cs, nmR a d
def nmRE (a : Nat) : List (Nat × D) → Prop
  | [] => True
  | (_, d) :: r => nmR a d ∧ nmRE a r
def nmRO (a : Nat) : List (Nat × List D) → Prop
  | [] => True
  | (i, c) :: r => (i < a ∨ pinB ≤ i) ∧ nmRL a c ∧ nmRO a r
theorem nmRE_ok {a : Nat} : ∀ {E : List (Nat × D)}, nmRE a E → ∀ t d, lk t E = some d → nmR a d
  | [], _, t, d, h => by simp [lk] at h
  | (s, e) :: r, h, t, d, hd => by
    simp only [lk] at hd
    split at hd
    · cases hd; exact h.1
    · exact nmRE_ok h.2 t d hd
theorem nmRO_ok {a : Nat} : ∀ {O : List (Nat × List D)}, nmRO a O → ∀ i c, lk i O = some c → (i < a ∨ pinB ≤ i) ∧ nmRL a c
  | [], _, t, d, h => by simp [lk] at h
  | (s, e) :: r, h, t, d, hd => by
    simp only [lk] at hd
    split at hd
    · rename_i e1; cases hd; subst e1; exact ⟨h.1, h.2.1⟩
    · exact nmRO_ok h.2.2 t d hd
def apO (o X : List (Nat × List D)) (f : List (Nat × List D) → Prop) : Prop := f (o ++ X)
theorem lk_appO {i : Nat} {A B : List (Nat × List D)} : lk i (A ++ B) = match lk i A with | some c => some c | none => lk i B := by
  induction A with
  | nil => rfl
  | cons x A ih =>
    obtain ⟨s, y⟩ := x
    simp only [List.cons_append, lk]
    split
    · rfl
    · exact ih

def wkO (own : List (Nat × List D)) : List (Nat × List D) → Prop
  | [] => True
  | (s, d) :: r => lkoW s own (fun d' => d' = d) ∧ wkO own r
theorem wkO_ok {env : List (Nat × List D)} : ∀ {l : List (Nat × List D)}, wkO env l → ∀ s d, lk s l = some d → lk s env = some d
  | [], _, s, d, h => by simp [lk] at h
  | (t, e) :: r, ⟨h1, h2⟩, s, d, h => by
    simp only [lk] at h
    split at h
    · rename_i e1; cases h; subst e1
      obtain ⟨d', hd, rfl⟩ := lkoW_ok h1; exact hd
    · exact wkO_ok h2 s d h

/-- What S knows of T's slots and blocks is what T says. -/
def wkW (S T : St) : Prop := T.n = S.n ∧ wkE S.env T.env ∧ wkO S.own T.own

theorem wkW_ok {w0 : Bas} {w : World} {φ : Loc} {S T : St} {tmps : Array Value} (hs : SatC w0 φ S tmps w) (h : wkW S T) : SatC w0 φ T tmps w := by
  obtain ⟨hn, he, ho⟩ := h
  have ho' := wkO_ok ho
  have hF : ∀ b, FSx φ S.own w b → FSx φ T.own w b := fun b hb => ⟨hb.1, fun id c hc => hb.2 id c (ho' id c hc), hb.3⟩
  refine ⟨hs.below, by rw [hn]; exact hs.size, fun id c hc => ?_, fun id id' c c' b h1 h2 => hs.inj id id' c c' b (ho' _ _ h1) (ho' _ _ h2), fun s d hd => ?_, hs.base, hs.pin⟩
  · obtain ⟨h1, h2⟩ := hs.own id c (ho' _ _ hc)
    exact ⟨h1.mono (fun _ _ => rfl) hF fun _ _ => rfl, h2⟩
  · obtain ⟨v, hv, hr⟩ := hs.env s d (wkE_ok he s d hd)
    exact ⟨v, hv, hr.mono (fun _ _ => rfl) hF⟩

def callW0 (G : Glob) (P : Program) (f : FuncId) (ds : List D) (lent : Bool) (S : St) (k : D → St → Prop) : Prop :=
  (∃ d, Fn G P f ds d ∧ lentW lent (flD d) ∧ (wf3 d → k d S)) ∨ (∃ sz n cs, FnS G P f ds sz n cs ∧ lentW lent (∀ c ∈ cs, flS c = true) ∧ (wf3 (.sl sz n cs) → newW S cs fun S' => k (.osl S.nx sz n) S')) ∨
  (∃ d, FnF G P f ds d ∧ (wf3 d → k d S)) ∨
  (lent = false ∧ ∃ m d os, FnO G P f ds m d os ∧ ltD m d ∧ ltO m os ∧ S.nx + m ≤ pinB ∧ nmRE S.nx S.env ∧ nmRO S.nx S.own ∧ apO (shO S.nx os) S.own fun own' => k (shD S.nx d) ⟨S.n, S.nx + m, S.env, own'⟩)
/-- .. and own blocks may be frozen first; or some of what is known forgotten. -/
def callW (G : Glob) (P : Program) (f : FuncId) (ds : List D) (lent : Bool) (S : St) (k : D → St → Prop) : Prop :=
  callW0 G P f ds lent S k ∨ (∃ id, frzW id S fun S' => callW0 G P f ds lent S' k) ∨ ∃ T, wkW S T ∧ callW0 G P f ds lent T k
def funW (G : Glob) (P : Program) (df : D) (ds : List D) (S : St) (k : D → St → Prop) : Prop :=
  match df with
  | .fn f caps => coeLW S ds fun ds' b => callW G P f (ds' ++ caps) b S k
  | .ofn f caps => coeLW S (ds ++ caps) fun ds' b => callW G P f ds' b S k
  | _ => False

def nintW (ty : TY) (A : Prop) : Prop := match ty with | .slice _ | .str => A | _ => False
def slTyW (ty : TY) (k : TypeId → Prop) : Prop := match ty with | .slice e => k e | _ => False
def arTyW (ty : TY) (k : Nat → TypeId → Prop) : Prop := match ty with | .arr n e => k n e | _ => False

def cpyW (S : St) (sz : Nat) (d : D) (m : Nat) (es : List D) (k : D → St → Prop) : Prop :=
  match d with
  | .osl id sz' n => lkoW id S.own fun c => sz' = sz ∧ c.length = n * sz ∧ splW c 0 (es.take (min m n * sz)) fun c' => soW id c' S.own fun own' => k (.int .i64 (min m n : Nat)) ⟨S.n, S.nx, S.env, own'⟩
  | .osw id off sz' n => lkoW id S.own fun c => sz' = sz ∧ off + n * sz ≤ c.length ∧ splW c off (es.take (min m n * sz)) fun c' => soW id c' S.own fun own' => k (.int .i64 (min m n : Nat)) ⟨S.n, S.nx, S.env, own'⟩
  | _ => False

def builtinW (P : Program) (b : Builtin) (ts : List TypeId) (ds : List D) (S : St) (k : D → St → Prop) : Prop :=
  match b, ts, ds with
  | .len, [t], [d] => tyW P t fun ty => lnW ty d fun d => k d S
  | .append, [t, u], [s, x] => tyW P t fun ty => slTyW ty fun e => tyW P u fun tu => nintW tu (szW P e fun sz => byW P e fun by_ => zeroW P e fun z => z.length = sz ∧ srcW S sz x fun m es => appW S sz by_ s m es k)
  | .copy, [t, _], [d, x] => tyW P t fun ty => slTyW ty fun e => szW P e fun sz => srcW S sz x fun m es => cpyW S sz d m es k
  | .max, _, d :: ds => mxW true d ds fun d => k d S
  | .min, _, d :: ds => mxW false d ds fun d => k d S
  | _, _, _ => False

/-! ### One operation -/
def opW (G : Glob) (P : Program) (op : Op) (S : St) (k : D → St → Prop) : Prop :=
  match op with
  | .move x | .assign x => evW G S x fun d => k d S
  | .pick c a b => evW G S c fun dc => match dc with | .bool t => if t = true then evW G S a fun d => k d S else evW G S b fun d => k d S | _ => False
  | .nilCheck x => evW G S x fun d => ncW d (k d S)
  | .binOp op t x y _ => evW G S x fun a => evW G S y fun b => bnW P op t a b fun d => k d S
  | .unOp op _ x => evW G S x fun a => unW op a fun d => k d S
  | .convert s d x => evW G S x fun a => tyW P s fun ts => tyW P d fun td => cvtW P ts td (cvW S ts td a k)
  | .extract x i => evW G S x fun a => exW a i fun d => k d S
  | .alloc t => zeroW P t fun cs => newW S cs fun S' => k (.ptr S.nx 0) S'
  | .box _ x => evW G S x fun d => clW d fun cs => nmC S.nx cs ∧ newW S cs fun S' => k (.ptr S.nx 0) S'
  | .load t p => evW G S p fun d => tyW P t fun ty => szW P t fun sz => agTyW ty fun ag => loadW S d ag sz fun d => k d S
  | .store t p x => evW G S p fun dp => evW G S x fun d => szW P t fun sz => clW d fun ds => ds.length = sz ∧ storeW S dp ds fun S' => k .any S'
  | .indexAddr t x i => evW G S x fun dx => evW G S i fun di => tyW P t fun ty => elTyW ty fun e => szW P e fun sz => ixW ty sz dx di fun d => k d S
  | .fieldAddr t x f => evW G S x fun dx => fldW P t f fun o ft => szW P ft fun n => n ≠ 0 ∧ faW dx o fun d => k d S
  | .field t x f => evW G S x fun dx => fldW P t f fun o ft => szW P ft fun n => tyW P ft fun ty => agTyW ty fun ag => fvW dx ag n o fun d => k d S
  | .index t x i => evW G S x fun dx => evW G S i fun di => tyW P t fun ty => inW P ty dx di fun d => k d S
  | .build t ps => tyW P t fun ty => blTyW P ty (fun e => zeroW P t fun z => szW P e fun sz => bldW G S (fun i k => k (i * sz) sz) ps.toList z fun c => k (.oag c) S)
      (zeroW P t fun z => bldW G S (fun i k => fldW P t i fun o ft => szW P ft fun n => k o n) ps.toList z fun c => k (.oag c) S)
  | .buildSlice t n ps => tyW P t fun ty => slTyW ty fun e => szW P e fun sz => n * sz ≤ 16777216 ∧ n ≤ maxLen ∧ zeroW P e fun z => z.length = sz ∧ repW n z fun c0 => bldW G S (fun i k => k (i * sz) sz) ps.toList c0 fun c => allP c ∧ k (.slx sz n c) S
  | .slice t x lo hi mx => evW G S x fun dx => evOW G S lo fun l => boD l fun l => evOW G S hi fun h => boD h fun h => evOW G S mx fun m => boD m fun m => tyW P t fun ty => seTyW P ty fun sz => slcW (S := S) ty sz dx l h m fun d => k d S
  | .makeSlice t l c => evW G S l fun dl => evW G S c fun dc => match dl, dc with
      | .int _ n, .int _ c => tyW P t fun ty => slTyW ty fun e => c = n ∧ 0 ≤ n ∧ szW P e fun sz => byW P e fun by_ => roomW n.toNat by_ (zeroW P e fun z => z.length = sz ∧ repW n.toNat z fun c0 => newW S c0 fun S' => k (.osl S.nx sz n.toNat) S')
      | _, _ => False
  | .sliceToArrayPointer t x => evW G S x fun d => tyW P t fun ty => arTyW ty fun n _ => s2aW n d fun d => k d S
  | .makeFunc (.func f) first caps => first = #[] ∧ evAW G S caps fun ds => k (.ofn f ds) S
  | .call { callee := .value f, args, .. } => evW G S f fun df => evAW G S args fun ds => funW G P df ds S k
  | .call { callee := .builtin b, args, argTypes } => evAW G S args fun ds => builtinW P b argTypes.toList ds S k
  | _ => False
  where
  cvtW (P : Program) (ts td : TY) (A : Prop) : Prop :=
    match ts, td with
    | .int _, .int _ | .str, .str => A
    | .str, .slice e | .slice e, .str => tyW P e fun te => match te with | .int .u8 => A | _ => False
    | _, _ => False
  agTyW (ty : TY) (k : Bool → Prop) : Prop := match isAg ty with | some b => k b | none => False
  elTyW (ty : TY) (k : TypeId → Prop) : Prop := match ty with | .slice e | .arr _ e => k e | _ => False
  inW (P : Program) (ty : TY) (dx di : D) (k : D → Prop) : Prop :=
    match ty with
    | .str => inxW ty none 0 dx di k
    | .arr _ e => szW P e fun sz => inxW ty (isAg (tyOf P e)) sz dx di k
    | _ => False
  blTyW (P : Program) (ty : TY) (A : TypeId → Prop) (B : Prop) : Prop :=
    match ty with
    | .arr _ e => A e
    | .struct fs => fs.all (fun p => (P.info? p.2).isSome) = true ∧ B
    | _ => False
  seTyW (P : Program) (ty : TY) (k : Nat → Prop) : Prop :=
    match ty with
    | .str => k 1
    | .slice e | .arr _ e => szW P e k
    | _ => False

section
variable {P : Program} {G : Glob} {w0 : Bas} {w : World} {S : St} {a : Act} {K : Act → World → Prop} {Q : Exit → Act → World → Prop} {k : D → St → Prop}

/-- No bound is set on what is called, nor on how deep; 'r': the loop in whose round the code is run, if any. -/
def fw (r : Option Nat) : Fence := { fn := fun _ => True, depth := none, alive := false, round := r }
theorem callsIn_fw {r : Option Nat} {n : Nat} {f : FuncId} {args : Array Value} {w : World} {R : Ending → World → Prop} : CallsIn (fw r) n P f args w R ↔ Calls P f args w R := callsIn_wide (n := n)
theorem wpIn_fw {n : Nat} {c : Code} {Q : Exit → Act → World → Prop} {a : Act} {w : World} : c.wpIn (fw none) n P Q a w ↔ c.wp P Q a w := wpIn_wide (n := n)
variable {r : Option Nat} {N : Nat}
theorem wp_val {o : Oper} {v : Value} {w' : World} (hd : ∀ c, o.op ≠ .defer c) (h : (execOp a.eval o).run P w = .ok (.value v) w') (hk : K (a.put o.dst v) w') : o.wpIn (fw r) N P a w K Q := by
  refine ⟨fun _ _ => trivial, ?_⟩
  rw [Oper.semAt_eq _ _ _ hd, h]; exact hk
theorem wp_skp {o : Oper} {w' : World} (hd : ∀ c, o.op ≠ .defer c) (h : (execOp a.eval o).run P w = .ok .skip w') (hk : K (a.put o.dst undef) w') : o.wpIn (fw r) N P a w K Q := by
  refine ⟨fun _ _ => trivial, ?_⟩
  rw [Oper.semAt_eq _ _ _ hd, h]; exact hk

/-- Where a callee begins. -/
theorem callW0_ok (hG : GOk G w0) {φ : Loc} (hs : SatC w0 φ S a.tmps w) {f : FuncId} {ds : List D} {vs : List Value} {lent : Bool} (ha : FArgs w (FL φ w) vs ds) (ha' : lent = false → FArgs w (FSx φ S.own w) vs ds) (h : callW0 G P f ds lent S k) :
    Callable P f ∧ Calls P f vs.toArray w fun e w' => ∃ v, e = .returned v ∧ Left w0 S a.tmps k v w' := by
  -- the footprint that the callee is given
  have base : ∃ b0 : Bas, b0.w = w ∧ b0.G = G ∧ (∀ b, ¬ b0.lent b) ∧ (lent = false → ∀ i j, b0.base.gh i j = none) ∧ FArgs w (fun b => b0.base b ∧ b < w.heap.size) vs ds ∧ (lent = false → ∀ b, b0.base b → b < w.heap.size → FSx φ S.own w b) := by
    cases lent with
    | false =>
      refine ⟨⟨w, ⟨fun b => FSx φ S.own w b ∨ w.heap.size ≤ b, fun _ _ => none⟩, G, fun b h => .inr h, fun _ => False, fun _ => (none, 0), fun _ => rfl, fun b h => h.elim, fun g cs hg => (glob_ok hG hs hg).mono (fun _ _ => rfl) fun b hb => ⟨.inl hb, hb.1, fun h => h⟩⟩, rfl, rfl, fun _ h => h, fun _ _ _ => rfl, ?_, fun _ b hb hlt => ?_⟩
      · exact ⟨(ha' rfl).1, fun i v d hv hd => ((ha' rfl).2 i v d hv hd).mono (fun _ _ => rfl) fun b hb => ⟨.inl hb, hb.1⟩⟩
      · rcases hb with hb | hb
        · exact hb
        · exact absurd hlt (Nat.not_lt.2 hb)
    | true =>
      exact ⟨⟨w, φ.base, G, fun b h => by rw [hs.base]; exact w0.new b (Nat.le_trans hs.below.size h), fun _ => False, fun _ => (none, 0), fun _ => rfl, fun b h => h.elim, fun g cs hg => (glob_ok hG hs hg).mono (fun _ _ => rfl) fun b hb => ⟨hb.3, hb.1, fun h => h⟩⟩, rfl, rfl, fun _ h => h, (fun h => by cases h), ha, fun h => by cases h⟩
  obtain ⟨b0, rfl, hbG, hbl, hgh, hargs, hlent⟩ := base
  -- what the caller makes of what the callee says of its blocks
  have back : ∀ {w'} {F : Nat → Prop} {v : Value} {d : D}, Below b0.w.heap.size b0.w w' → lent = false → RepR w' (fun b => (b0.base b ∧ b < w'.heap.size) ∧ F b) v d → RepR w' (fun b => FSx φ S.own w' b ∧ F b) v d := by
    intro w' F v d hb hl hr
    refine hr.mono (fun _ _ => rfl) fun b hbb => ⟨?_, hbb.2⟩
    rcases Nat.lt_or_ge b b0.w.heap.size with h | h
    · exact FSx.ext hb (hlent hl b hbb.1.1 h)
    · exact ⟨hbb.1.2, fun id c hc e => absurd ((hs.own id c hc).1.lt e) (Nat.not_lt.2 h), by rw [hs.base]; exact w0.new b (Nat.le_trans hs.below.size h)⟩
  rcases h with ⟨d, ⟨hc, hf⟩, hfl, hk⟩ | ⟨sz, n, cs, ⟨hc, hf⟩, hfl, hk⟩ | ⟨d, ⟨hc, hf⟩, hk⟩ | ⟨hlf, m, d, os, ⟨hc, hf⟩, hld, hlo, hm, hnE, hnO, hk⟩
  · refine ⟨hc, (hf b0 vs hbG hbl hargs).mono ?_⟩
    rintro e w' ⟨v, rfl, hr, hb⟩
    refine ⟨v, rfl, φ, d, S, hk (wf3_of hr), hs.ext hb, .ro ?_, rfl⟩
    cases lent with
    | true => exact hr.flD (hfl rfl)
    | false => exact (back (F := fun _ => True) hb rfl (hr.mono (fun _ _ => rfl) fun b hb => ⟨hb, trivial⟩)).mono (fun _ _ => rfl) fun b hb => hb.1
  · refine ⟨hc, (hf b0 vs hbG hbl hargs).mono ?_⟩
    rintro e w' ⟨v, rfl, ho, hb⟩
    have hwf := wf3_of (ho.rep fun b h1 h2 => ⟨b0.new b h1, h2⟩)
    obtain ⟨hnm, hk⟩ := nmW_ok (hk hwf)
    have hs' := hs.ext hb
    obtain ⟨hl, ho | ⟨b, c, arr, T, fz, rfl, hB, hh, hsz, hn, hm, hfz, hr⟩⟩ := ho
    · obtain ⟨p, rfl, rfl⟩ := ho
      have : cs = [] := List.eq_nil_of_length_eq_zero (by simpa using hl)
      subst this
      exact ⟨_, rfl, _, _, _, hk, hs'.virt hnm, .osl0 (by rw [upd_same]), rfl⟩
    · -- the callee's row becomes the caller's own
      refine ⟨_, rfl, Abs.upd φ S.nx (some b, arr.size), _, _, hk, ?_, ?_, rfl⟩
      · have hbl : b < w'.heap.size := (Array.getElem?_eq_some_iff.1 hh).1
        have hnew : ∀ id c, lk id S.own = some c → (φ id).1 ≠ some b := fun id c hc e => absurd ((hs.own id c hc).1.lt e) (Nat.not_lt.2 hB)
        have old : ∀ {v d}, Rep φ b0.w (FSx φ S.own b0.w) v d → mn S.nx d = false → Rep (Abs.upd φ S.nx (some b, arr.size)) w' (FSx (Abs.upd φ S.nx (some b, arr.size)) ((S.nx, cs) :: S.own) w') v d := by
          intro v d h hm
          refine (h.mono (fun k hk => hb.block k hk.1) fun k hk => ?_).upd hm
          refine ⟨Nat.lt_of_lt_of_le hk.1 hb.size, fun id x hx => ?_, hk.3⟩
          simp only [lk] at hx
          split at hx
          · rename_i e; subst e; rw [upd_same]; intro e; simp only [Option.some.injEq] at e; have := hk.1; omega
          · rename_i e; rw [upd_other _ _ e]; exact hk.2 id x hx
        refine ⟨hs'.below, hs'.size, fun id x hx => ?_, fun id id' x x' k hx hx' hk1 hk2 => ?_, fun s d hd => ?_, hs'.base, fun i hi => by rw [upd_other _ _ (by have := hnm.lt; omega)]; exact hs'.pin i hi⟩
        · simp only [lk] at hx
          split at hx
          · rename_i e; cases hx; subst e
            refine ⟨?_, fun k hk => by rw [upd_same] at hk; cases hk; exact .inl (Nat.le_trans hs.below.size hB)⟩
            unfold OwnOk
            rw [upd_same]
            refine ⟨arr, T, fz, hh, rfl, hfz, ?_, fun i v d hv hd => ⟨.ro ?_, (hr i v d hv hd).2⟩⟩
            · rw [hl, hsz]; exact Nat.mul_le_mul_right _ hn
            · have h1 := (hr i v d hv hd).1
              cases lent with
              | true => exact h1.flS (hfl rfl d (List.mem_of_getElem? hd))
              | false =>
                refine (back (F := fun k => k ≠ b) hb rfl h1).mono (fun _ _ => rfl) fun k hk => ⟨hk.1.1, fun id x hx => ?_, hk.1.3⟩
                simp only [lk] at hx
                split at hx
                · rename_i e; subst e; rw [upd_same]; intro e; simp only [Option.some.injEq] at e; exact hk.2 e.symm
                · rename_i e; rw [upd_other _ _ e]; exact hk.1.2 id x hx
          · rename_i e
            obtain ⟨h1, h2⟩ := hs.own id x hx
            refine ⟨?_, fun k hk => h2 k (by rwa [upd_other _ _ e] at hk)⟩
            unfold OwnOk at h1 ⊢
            rw [upd_other _ _ e]
            split
            · rename_i e1; rw [e1] at h1; exact ⟨fun i d hd => by obtain ⟨v, a1, a2⟩ := h1.1 i d hd; exact ⟨v, a1, old a2 (hnm.nm id x hx e d (List.mem_of_getElem? hd))⟩, h1.2⟩
            · rename_i k e1
              rw [e1] at h1
              obtain ⟨arr', T', fz', k1, k2, k3, k4, k5⟩ := h1
              exact ⟨arr', T', fz', (hb.block _ (Array.getElem?_eq_some_iff.1 k1).1).trans k1, k2, k3, k4, fun i v d hv hd => ⟨old (k5 i v d hv hd).1 (hnm.nm id x hx e d (List.mem_of_getElem? hd)), (k5 i v d hv hd).2⟩⟩
        · have key : ∀ i y, lk i ((S.nx, cs) :: S.own) = some y → (Abs.upd φ S.nx (some b, arr.size) i).1 = some k → (i = S.nx ∧ k = b) ∨ (i ≠ S.nx ∧ lk i S.own = some y ∧ (φ i).1 = some k ∧ k < b0.w.heap.size) := by
            intro i y hi hbi
            simp only [lk] at hi
            split at hi
            · rename_i e; subst e; rw [upd_same] at hbi; cases hbi; exact .inl ⟨rfl, rfl⟩
            · rename_i e; rw [upd_other _ _ e] at hbi; exact .inr ⟨e, hi, hbi, (hs.own i _ hi).1.lt hbi⟩
          rcases key id x hx hk1 with ⟨e1, e2⟩ | ⟨e1, e2, e3, e4⟩ <;> rcases key id' x' hx' hk2 with ⟨f1, f2⟩ | ⟨f1, f2, f3, f4⟩
          · rw [e1, f1]
          · omega
          · omega
          · exact hs.inj id id' x x' k e2 f2 e3 f3
        · rcases lk_purge hd with ⟨rfl, d', hd'⟩ | ⟨hd', hm⟩
          · obtain ⟨v, hv, _⟩ := hs.env s d' hd'
            exact ⟨v, hv, .ro (.any v)⟩
          · obtain ⟨v, hv, hr⟩ := hs.env s d hd'
            exact ⟨v, hv, old hr hm⟩
      · exact .osl (by rw [upd_same]) (by rw [upd_same]; exact hsz.symm) hn hm
  · refine ⟨hc, (hf b0 vs hbG hbl hargs).mono ?_⟩
    rintro e w' ⟨v, rfl, hr, hb⟩
    refine ⟨v, rfl, φ, d, S, hk (wf3_of hr), hs.ext hb, .ro (hr.mono (fun _ _ => rfl) fun b hbb => ?_), rfl⟩
    exact ⟨hbb.2, fun id c hc e => absurd ((hs.own id c hc).1.lt e) (Nat.not_lt.2 hbb.1), by rw [hs.base]; exact w0.new b (Nat.le_trans hs.below.size hbb.1)⟩
  · -- a value that names blocks of the callee's becomes one that names the caller's
    subst hlf
    refine ⟨hc, (hf b0 vs hbG hbl (hgh rfl) hargs).mono ?_⟩
    rintro e w' ⟨v, φo, rfl, hb, hφb, hown, hinj, hr⟩
    have hs' := hs.ext hb
    let φ2 : Loc := ⟨fun i => if S.nx ≤ i ∧ i < S.nx + m then φo (i - S.nx) else φ i, φ.base⟩
    have h2n : ∀ i, i < m → φ2 (i + S.nx) = φo i := fun i hi => by
      show (if S.nx ≤ i + S.nx ∧ i + S.nx < S.nx + m then φo (i + S.nx - S.nx) else φ (i + S.nx)) = φo i
      rw [if_pos ⟨by omega, by omega⟩, Nat.add_sub_cancel]
    have h2o : ∀ i, ¬ (S.nx ≤ i ∧ i < S.nx + m) → φ2 i = φ i := fun i hi => if_neg hi
    have hlt := nmRO_ok hnO
    have hcase : ∀ {i c}, lk i (shO S.nx os ++ S.own) = some c → (∃ j c0, i = j + S.nx ∧ j < m ∧ lk j os = some c0 ∧ c = c0.map (Abs.shS S.nx)) ∨ (lk i S.own = some c ∧ φ2 i = φ i ∧ ¬ (S.nx ≤ i ∧ i < S.nx + m)) := by
      intro i c h
      rw [lk_appO] at h
      split at h
      · rename_i c' e
        cases h
        obtain ⟨j, c0, h1, h2, h3⟩ := lk_shO e
        exact .inl ⟨j, c0, h1, (ltO_ok hlo j c0 h2).1, h2, h3⟩
      · have := (hlt i c h).1
        exact .inr ⟨h, h2o i (by omega), by omega⟩
    have newB : ∀ {j c0 b}, lk j os = some c0 → (φo j).1 = some b → b0.w.heap.size ≤ b := fun h1 h2 => (hown _ _ h1).2 _ h2
    have oldB : ∀ {i c b}, lk i S.own = some c → (φ i).1 = some b → b < b0.w.heap.size := fun h1 h2 => (hs.own _ _ h1).1.lt h2
    have hFo : ∀ b, FSx φ S.own b0.w b → FSx φ2 (shO S.nx os ++ S.own) w' b := by
      intro b hbb
      refine ⟨Nat.lt_of_lt_of_le hbb.1 hb.size, fun i c hc e => ?_, hbb.3⟩
      rcases hcase hc with ⟨j, c0, rfl, hj, h1, _⟩ | ⟨h1, h2, _⟩
      · rw [h2n j hj] at e
        have := newB h1 e; have := hbb.1; omega
      · rw [h2] at e; exact hbb.2 i c h1 e
    have hFn : ∀ b, FSx φo os w' b → FSx φ2 (shO S.nx os ++ S.own) w' b := by
      intro b hbb
      have hbase : b0.base b := by rw [← hφb]; exact hbb.3
      rcases Nat.lt_or_ge b b0.w.heap.size with h | h
      · exact hFo b (hlent rfl b hbase h)
      · refine ⟨hbb.1, fun i c hc e => ?_, by show φ.base b; rw [hs.base]; exact w0.new b (Nat.le_trans hs.below.size h)⟩
        rcases hcase hc with ⟨j, c0, rfl, hj, h1, _⟩ | ⟨h1, h2, _⟩
        · rw [h2n j hj] at e; exact hbb.2 j c0 h1 e
        · rw [h2] at e; have := oldB h1 e; omega
    have old : ∀ {v d}, Rep φ b0.w (FSx φ S.own b0.w) v d → nmR S.nx d → Rep φ2 w' (FSx φ2 (shO S.nx os ++ S.own) w') v d := by
      intro v d h hn
      refine (h.mono (fun k hk => hb.block k hk.1) hFo).cg fun i hi => h2o i fun hh => ?_
      have := hn i hh.1 (by omega)
      rw [this] at hi; cases hi
    refine ⟨v, rfl, φ2, _, _, hk, ⟨hs'.below, hs'.size, fun i c hc => ?_, fun i i' c c' b h1 h2 hb1 hb2 => ?_, fun s d hd => ?_, hs'.base, fun i hi => ?_⟩, (hr.mono (fun _ _ => rfl) hFn).shD h2n hld, rfl⟩
    · rcases hcase hc with ⟨j, c0, rfl, hj, h1, rfl⟩ | ⟨h1, h2, _⟩
      · obtain ⟨g1, g2⟩ := hown j c0 h1
        have hl0 := ltL_ok (ltO_ok hlo j c0 h1).2
        refine ⟨?_, fun b hb => .inl (Nat.le_trans hs.below.size (g2 b (by rw [h2n j hj] at hb; exact hb)))⟩
        unfold OwnOk at g1 ⊢
        rw [h2n j hj]
        revert g1
        cases (φo j).1 with
        | none =>
          rintro ⟨a1, a2⟩
          have : c0 = [] := by
            cases c0 with
            | nil => rfl
            | cons x r =>
              obtain ⟨v, b1, _⟩ := a1 0 x rfl
              rw [hφb, hgh rfl] at b1; cases b1
          subst this
          exact ⟨fun i d hd => by simp at hd, a2⟩
        | some b =>
          rintro ⟨arr, T, fz, a1, a2, a3, a4, a5⟩
          refine ⟨arr, T, fz, a1, a2, a3, by simpa using a4, fun i v d hv hd => ?_⟩
          rw [List.getElem?_map] at hd
          cases e : c0[i]? with
          | none => rw [e] at hd; cases hd
          | some d0 =>
            rw [e] at hd
            obtain rfl : Abs.shS S.nx d0 = d := Option.some.inj hd
            exact ⟨((a5 i v d0 hv e).1.mono (fun _ _ => rfl) hFn).shS h2n (hl0 d0 (List.mem_of_getElem? e)), (a5 i v d0 hv e).2⟩
      · obtain ⟨g1, g2⟩ := hs.own i c h1
        have hnc := (hlt i c h1).2
        refine ⟨?_, fun b hb => g2 b (by rw [h2] at hb; exact hb)⟩
        unfold OwnOk at g1 ⊢
        rw [h2]
        revert g1
        cases hφi : (φ i).1 with
        | none =>
          rintro ⟨a1, a2⟩
          exact ⟨fun j d hd => by obtain ⟨v, b1, b2⟩ := a1 j d hd; exact ⟨v, b1, old b2 (hnc d (List.mem_of_getElem? hd))⟩, a2⟩
        | some b =>
          rintro ⟨arr, T, fz, a1, a2, a3, a4, a5⟩
          exact ⟨arr, T, fz, (hb.block b (oldB h1 hφi)).trans a1, a2, a3, a4, fun j v d hv hd => ⟨old (a5 j v d hv hd).1 (hnc d (List.mem_of_getElem? hd)), (a5 j v d hv hd).2⟩⟩
    · rcases hcase h1 with ⟨j, c0, rfl, hj, k1, _⟩ | ⟨k1, k2, _⟩ <;> rcases hcase h2 with ⟨j', c0', rfl, hj', l1, _⟩ | ⟨l1, l2, _⟩
      · rw [h2n j hj] at hb1; rw [h2n j' hj'] at hb2
        rw [hinj j j' c0 c0' b k1 l1 hb1 hb2]
      · rw [h2n j hj] at hb1; rw [l2] at hb2
        have := newB k1 hb1; have := oldB l1 hb2; omega
      · rw [k2] at hb1; rw [h2n j' hj'] at hb2
        have := newB l1 hb2; have := oldB k1 hb1; omega
      · rw [k2] at hb1; rw [l2] at hb2
        exact hs.inj i i' c c' b k1 l1 hb1 hb2
    · obtain ⟨v, hv, hr⟩ := hs.env s d hd
      exact ⟨v, hv, old hr (nmRE_ok hnE s d hd)⟩
    · rw [h2o i (by omega)]; exact hs.pin i hi
theorem callW_ok (hG : GOk G w0) {φ : Loc} (hs : SatC w0 φ S a.tmps w) {f : FuncId} {ds : List D} {vs : List Value} {lent : Bool} (ha : FArgs w (FL φ w) vs ds) (ha' : lent = false → FArgs w (FSx φ S.own w) vs ds) (h : callW G P f ds lent S k) :
    Callable P f ∧ Calls P f vs.toArray w fun e w' => ∃ v, e = .returned v ∧ Left w0 S a.tmps k v w' := by
  rcases h with h | ⟨id, h⟩ | ⟨T, hwk, h⟩
  · exact callW0_ok hG hs ha ha' h
  · obtain ⟨S', h, hs', hn, hF⟩ := frz_ok hs h
    obtain ⟨h1, h2⟩ := callW0_ok hG hs' ha (fun e => ⟨(ha' e).1, fun i v d hv hd => ((ha' e).2 i v d hv hd).mono (fun _ _ => rfl) hF⟩) h
    refine ⟨h1, h2.mono ?_⟩
    rintro e w' ⟨v, he, φ', d, S2, q1, q2, q3, q4⟩
    exact ⟨v, he, φ', d, S2, q1, q2, q3, q4.trans hn⟩
  · have ho' := wkO_ok hwk.2.2
    have hF : ∀ b, FSx φ S.own w b → FSx φ T.own w b := fun b hb => ⟨hb.1, fun id c hc => hb.2 id c (ho' id c hc), hb.3⟩
    obtain ⟨h1, h2⟩ := callW0_ok hG (wkW_ok hs hwk) ha (fun e => ⟨(ha' e).1, fun i v d hv hd => ((ha' e).2 i v d hv hd).mono (fun _ _ => rfl) hF⟩) h
    refine ⟨h1, h2.mono ?_⟩
    rintro e w' ⟨v, he, φ', d, S2, q1, q2, q3, q4⟩
    exact ⟨v, he, φ', d, S2, q1, q2, q3, q4.trans hwk.1⟩
end

#print axioms callW_ok
end Go.Abs
end
section
namespace Go.Abs
open Go.RowKit (Below)

section
variable {P : Program} {G : Glob} {w0 : Bas} {w : World} {S : St} {a : Act} {K : Act → World → Prop} {Q : Exit → Act → World → Prop} {k : D → St → Prop} {φ : Loc} {tmps : Array Value} {r : Option Nat} {N : Nat}

theorem cpyW_ok (hs : SatC w0 φ S tmps w) {T U e ty : TypeId} {i : TypeInfo} (ht : P.underlying T = some (.slice e)) (hi : P.info? e = some i) {dv x : Value} {d : D} {m : Nat} {es : List D} {vs : List Value} (hd : Rep φ w (FSx φ S.own w) dv d)
    (src : Src P w (FSx φ S.own w) i.size x m es vs) (h : cpyW S i.size d m es k) : ∃ v w', (Builtin.copy_ #[T, U] ty #[dv, x]).run P w = .ok v w' ∧ Left w0 S tmps k v w' := by
  have core : ∀ (n : Nat) (p : Option Addr) (c' : Nat), dv = .slice p n c' → n ≤ maxLen → ∀ w', (∀ q, p = some q → (storeCells q (vs.take (min m n * i.size))).run P w = .ok () w') → (p = none → w' = w) → (Builtin.copy_ #[T, U] ty #[dv, x]).run P w = .ok (goInt (min m n : Nat)) w' := by
    rintro n p c' rfl hn w' hst hno
    have hc := src.cells (min m n) (Nat.min_le_left _ _) w (fun _ _ => rfl)
    have hl := src.len w
    cases p with
    | none =>
      cases hno rfl
      have e : Nat.min m n = min m n := rfl
      simp [Builtin.copy_, run_underlying ht, sizeOf, e, hl, hi, typeInfo, hc]
    | some q =>
      have := hst q rfl
      have e : Nat.min m n = min m n := rfl
      simp [Builtin.copy_, run_underlying ht, sizeOf, e, hl, hi, typeInfo, hc, this]
  have hlt : ∀ n, (vs.take (min m n * i.size)).length = (es.take (min m n * i.size)).length := fun n => by simp [src.lv, src.lc]
  have hle : ∀ n, (es.take (min m n * i.size)).length = min m n * i.size := fun n => by
    rw [List.length_take, src.lc]; exact Nat.min_eq_left (Nat.mul_le_mul_right _ (Nat.min_le_left _ _))
  have hrep : ∀ n, ∀ (j : Nat) (v : Value) (d : D), (vs.take (min m n * i.size))[j]? = some v → (es.take (min m n * i.size))[j]? = some d → Rep φ w (FSx φ S.own w) v d ∧ v.oneCell' = true := fun n j v d hv hd => by
    rw [List.getElem?_take] at hv hd
    split at hv
    · rename_i hj
      rw [if_pos hj] at hd
      exact ⟨.ro (src.rep j v d hv hd).1, (src.rep j v d hv hd).2⟩
    · cases hv
  have hfin : ∀ n, n ≤ maxLen → ∀ w', RepR w' (FSx φ S.own w') (goInt (min m n : Nat)) (.int .i64 (min m n : Nat)) := fun n hn w' => by
    have := inR_len (n := min m n) (by omega)
    exact .int this.1 this.2
  have hfin' : ∀ n, n ≤ maxLen → ∀ w' own', RepR w' (FSx φ own' w') (goInt (min m n : Nat)) (.int .i64 (min m n : Nat)) := fun n hn w' own' => by
    have := inR_len (n := min m n) (by omega)
    exact .int this.1 this.2
  have empty : ∀ (id : Nat) (c : List D) (off : Nat), lk id S.own = some c → SatC w0 φ ⟨S.n, S.nx, S.env, setO id (splD c off []) S.own⟩ tmps w := fun id c off hid => by
    have : splD c off [] = c := by simp [splD]
    rw [this]
    exact SatC.congr_own hs (lk_setO_eq hid)
  cases d with
  | osl id sz' n =>
    obtain ⟨c, hid, rfl, hl, hk⟩ := lkoW_ok h
    cases hd with
    | ro hd => cases hd
    | @osl0 _ _ p hb =>
      have h0 : (es.take (min m 0 * i.size)) = [] := List.eq_nil_of_length_eq_zero (by rw [hle]; simp)
      have h1 : (vs.take (min m 0 * i.size)) = [] := List.eq_nil_of_length_eq_zero (by rw [hlt, hle]; simp)
      refine ⟨_, w, core 0 p 0 rfl (by simp [maxLen]) w (fun q _ => by rw [h1]; rfl) (fun _ => rfl), φ, _, _, hk, ?_, .ro (hfin' 0 (by simp [maxLen]) _ _), rfl⟩
      rw [h0]; exact empty id c 0 hid
    | @osl _ _ _ c' b hb he hn hm =>
      obtain ⟨w', hrun, hs', _⟩ := hs.store (P := P) (off := 0) (vs := vs.take (min m n * i.size)) (ds := es.take (min m n * i.size)) hid hb (hlt n) (by rw [hle, hl, Nat.zero_add]; exact Nat.mul_le_mul_right _ (Nat.min_le_right _ _)) (hrep n)
      exact ⟨_, w', core n _ _ rfl (by omega) w' (fun q hq => by cases hq; exact hrun) (fun h => by cases h), φ, _, _, hk, hs', .ro (hfin' n (by omega) _ _), rfl⟩
  | osw id off sz' n =>
    obtain ⟨c, hid, rfl, hl, hk⟩ := lkoW_ok h
    cases hd with
    | ro hd => cases hd
    | @osw0 _ _ _ c' p hc' =>
      have h0 : (es.take (min m 0 * i.size)) = [] := List.eq_nil_of_length_eq_zero (by rw [hle]; simp)
      have h1 : (vs.take (min m 0 * i.size)) = [] := List.eq_nil_of_length_eq_zero (by rw [hlt, hle]; simp)
      refine ⟨_, w, core 0 p c' rfl (by simp [maxLen]) w (fun q _ => by rw [h1]; rfl) (fun _ => rfl), φ, _, _, hk, ?_, .ro (hfin' 0 (by simp [maxLen]) _ _), rfl⟩
      rw [h0]; exact empty id c off hid
    | @osw _ _ _ _ c' b hb hn hm hsz =>
      obtain ⟨w', hrun, hs', _⟩ := hs.store (P := P) (off := off) (vs := vs.take (min m n * i.size)) (ds := es.take (min m n * i.size)) hid hb (hlt n) (by
        rw [hle]
        have : min m n * i.size ≤ n * i.size := Nat.mul_le_mul_right _ (Nat.min_le_right _ _)
        omega) (hrep n)
      exact ⟨_, w', core n _ _ rfl (by omega) w' (fun q hq => by cases hq; exact hrun) (fun h => by cases h), φ, _, _, hk, hs', .ro (hfin' n (by omega) _ _), rfl⟩
  | _ => exact h.elim

/-- What stands behind an operation. -/
def Next (w0 : Bas) (S : St) (a : Act) (o : Oper) (k : D → St → Prop) (K : Act → World → Prop) : Prop := ∀ v w', Left w0 S a.tmps k v w' → K (a.put o.dst v) w'

theorem boD_ok {F : Nat → Prop} (hG : GOk G w0) (hs : SatC w0 φ S a.tmps w) {x : Option Operand} {kk : Option Int → Prop} (h : evOW G S x fun d => boD d kk) : ∃ l, kk l ∧ BoOk w (x.map a.eval) l := by
  cases x with
  | none => exact ⟨none, h, trivial⟩
  | some x =>
    obtain ⟨d, h, hd⟩ := evW_ok hG hs h
    cases d with
    | int k n => obtain ⟨e, _⟩ := hd.int_inv; exact ⟨some n, h, k, e⟩
    | _ => exact h.elim

theorem ncW_ok {F : Nat → Prop} {v : Value} {d : D} {A : Prop} (hr : Rep φ w F v d) (h : ncW d A) : A ∧ ((∃ p, v = .pointer (some p)) ∨ ∃ f c, v = .func (.func f) #[] c) := by
  cases d with
  | ptr id off => cases hr with
    | ro hr => cases hr
    | ptr hb => exact ⟨h, .inl ⟨_, rfl⟩⟩
  | rop cs off => cases hr with | ro hr => cases hr; exact ⟨h, .inl ⟨_, rfl⟩⟩
  | fn f caps => cases hr with | ro hr => cases hr; exact ⟨h, .inr ⟨_, _, rfl⟩⟩
  | ofn f caps => cases hr with
    | ro hr => cases hr
    | ofn => exact ⟨h, .inr ⟨_, _, rfl⟩⟩
  | _ => exact h.elim

set_option maxHeartbeats 1000000 in
theorem opW_ok (hG : GOk G w0) (hs : SatC w0 φ S a.tmps w) (o : Oper) (h : opW G P o.op S k) (hn : Next w0 S a o k K) : o.wpIn (fw r) N P a w K Q := by
  obtain ⟨dst, op, ty, pos, after, guard⟩ := o
  have hd : ∀ c, (Oper.mk dst op ty pos after guard).op ≠ .defer c := by rintro c rfl; exact h
  have same : ∀ {v d}, k d S → Rep φ w (FSx φ S.own w) v d → K (a.put dst v) w := fun hk hr => hn _ w (left_same hs hk hr)
  have fin : ∀ {v w'}, (execOp a.eval ⟨dst, op, ty, pos, after, guard⟩).run P w = .ok (.value v) w' → Left w0 S a.tmps k v w' → (Oper.mk dst op ty pos after guard).wpIn (fw r) N P a w K Q := fun hr hl => wp_val hd hr (hn _ _ hl)
  cases op with
  | move x =>
    obtain ⟨d, hk, hd⟩ := evW_ok hG hs h
    exact fin rfl (left_same hs hk hd)
  | assign x =>
    obtain ⟨d, hk, hd⟩ := evW_ok hG hs h
    exact fin rfl (left_same hs hk hd)
  | pick c x y =>
    obtain ⟨d, h, hd⟩ := evW_ok hG hs h
    cases d with
    | bool t =>
      have e := hd.bool_inv
      cases t with
      | true =>
        obtain ⟨d, hk, hd⟩ := evW_ok hG hs h
        exact fin (by simp [execOp, e, asBool]) (left_same hs hk hd)
      | false =>
        obtain ⟨d, hk, hd⟩ := evW_ok hG hs h
        exact fin (by simp [execOp, e, asBool]) (left_same hs hk hd)
    | _ => exact h.elim
  | nilCheck x =>
    obtain ⟨d, h, hd⟩ := evW_ok hG hs h
    obtain ⟨hk, ⟨p, e⟩ | ⟨f, c, e⟩⟩ := ncW_ok hd h
    · exact fin (by simp only [execOp, e]; rfl) (left_same hs hk hd)
    · exact fin (by simp only [execOp, e]; rfl) (left_same hs hk hd)
  | binOp op t x y yt =>
    obtain ⟨dx, h, hx⟩ := evW_ok hG hs h
    obtain ⟨dy, h, hy⟩ := evW_ok hG hs h
    obtain ⟨v, d, hrun, hk, hr⟩ := bnW_ok (P := P) hx hy h x y
    exact fin (by simp only [execOp, Sem.run_bind] at hrun ⊢; rw [hrun]; rfl) (left_same hs hk (.ro hr))
  | unOp op t x =>
    obtain ⟨dx, h, hx⟩ := evW_ok hG hs h
    obtain ⟨v, d, hrun, hk, hr⟩ := unW_ok (P := P) (w := w) hx h
    exact fin (by simp only [execOp, Sem.run_bind, hrun]; rfl) (left_same hs hk (.ro hr))
  | convert s d x =>
    obtain ⟨dx, h, hx⟩ := evW_ok hG hs h
    have h : opW.cvtW P (tyOf P s) (tyOf P d) (cvW S (tyOf P s) (tyOf P d) dx k) := h
    have key : ∀ {e}, tyW P e (fun te => match te with | .int .u8 => cvW S (tyOf P s) (tyOf P d) dx k | _ => False) → P.underlying e = some (.int .u8) ∧ cvW S (tyOf P s) (tyOf P d) dx k := by
      intro e h
      simp only [tyW] at h
      split at h
      · rename_i he; exact ⟨tyOf_int he, h⟩
      · exact h.elim
    have conc : (∀ e, tyOf P s = .slice e ∨ tyOf P d = .slice e → P.underlying e = some (.int .u8)) → (∃ u, P.underlying s = some u) → cvW S (tyOf P s) (tyOf P d) dx k → (Oper.mk dst (.convert s d x) ty pos after guard).wpIn (fw r) N P a w K Q := by
      intro h1 h2 h4
      obtain ⟨v, w', hrun, hl⟩ := cvW_ok (P := P) hs h1 hx h2 h4
      exact fin (by simp only [execOp, Sem.run_bind, hrun]; rfl) hl
    unfold opW.cvtW at h
    split at h
    · rename_i k1 k2 e1 e2
      exact conc (fun e he => by rw [e1, e2] at he; simp at he) ⟨_, tyOf_int e1⟩ h
    · rename_i e1 e2
      exact conc (fun e he => by rw [e1, e2] at he; simp at he) ⟨_, tyOf_str e1⟩ h
    · rename_i e e1 e2
      obtain ⟨hu, h⟩ := key h
      exact conc (fun e' he => by rw [e1, e2] at he; simp at he; subst he; exact hu) ⟨_, tyOf_str e1⟩ h
    · rename_i e e1 e2
      obtain ⟨hu, h⟩ := key h
      exact conc (fun e' he => by rw [e1, e2] at he; simp at he; subst he; exact hu) ⟨_, tyOf_slice e1⟩ h
    · exact h.elim
  | extract x i =>
    obtain ⟨dx, h, hx⟩ := evW_ok hG hs h
    obtain ⟨v, d, hrun, hk, hr⟩ := exW_ok (P := P) (w := w) hx h
    exact fin (by simp only [execOp, Sem.run_bind, hrun]; rfl) (left_same hs hk (.ro hr))
  | alloc t =>
    obtain ⟨v, w', hrun, hl⟩ := allocW_ok (P := P) hs h
    exact fin (by simp only [execOp, Sem.run_bind, hrun]; rfl) hl
  | box t x =>
    obtain ⟨dx, h, hx⟩ := evW_ok hG hs h
    obtain ⟨v, w', hrun, hl⟩ := boxW_ok (P := P) (t := t) hs hx h
    exact fin (by simp only [execOp, Sem.run_bind, hrun]; rfl) hl
  | load t p =>
    obtain ⟨dx, h, hx⟩ := evW_ok hG hs h
    simp only [tyW] at h
    obtain ⟨i, hi, h⟩ := szW_ok h
    unfold opW.agTyW at h
    split at h
    · rename_i ag hag
      obtain ⟨v, d, hrun, hk, hr⟩ := loadW_ok (P := P) hs hx hag hi h
      exact fin (by simp only [execOp, Sem.run_bind, hrun]; rfl) (left_same hs hk hr)
    · exact h.elim
  | store t p x =>
    obtain ⟨dp, h, hp⟩ := evW_ok hG hs h
    obtain ⟨dx, h, hx⟩ := evW_ok hG hs h
    obtain ⟨i, hi, h⟩ := szW_ok h
    obtain ⟨w', hrun, hl⟩ := storeW_ok (P := P) hs hi hp hx h
    exact wp_skp hd (by simp only [execOp, Sem.run_bind, hrun]; rfl) (hn _ _ (hl _))
  | indexAddr t x i =>
    obtain ⟨dx, h, hx⟩ := evW_ok hG hs h
    obtain ⟨di, h, hi⟩ := evW_ok hG hs h
    simp only [tyW] at h
    unfold opW.elTyW at h
    split at h
    · rename_i e he
      obtain ⟨inf, hinf, h⟩ := szW_ok h
      obtain ⟨v, d, hrun, hk, hr⟩ := ixW_ok (P := P) hs hinf (.inr he) hx hi h
      exact fin (by simp only [execOp, Sem.run_bind, hrun]; rfl) (left_same hs hk hr)
    · rename_i n e he
      obtain ⟨inf, hinf, h⟩ := szW_ok h
      obtain ⟨v, d, hrun, hk, hr⟩ := ixW_ok (P := P) hs hinf (.inl ⟨_, he⟩) hx hi h
      exact fin (by simp only [execOp, Sem.run_bind, hrun]; rfl) (left_same hs hk hr)
    · exact h.elim
  | fieldAddr t x f =>
    obtain ⟨dx, h, hx⟩ := evW_ok hG hs h
    obtain ⟨v, d, hrun, hk, hr⟩ := faW_ok (P := P) hs hx h
    exact fin (by simp only [execOp, Sem.run_bind, hrun]; rfl) (left_same hs hk hr)
  | field t x f =>
    obtain ⟨dx, h, hx⟩ := evW_ok hG hs h
    have h' : fldW P t f fun o ft => szW P ft fun n => ∃ ag, isAg (tyOf P ft) = some ag ∧ fvW dx ag n o fun d => k d S := by
      obtain ⟨fa, fx, q1, q2, h⟩ := fldW_ok h
      have e : fldW P t f = fun kk => kk fx.offset fx.type := by
        funext kk
        have ht : tyOf P t = .struct (fa.toList.map fun f => (f.offset, f.type)) := by simp [tyOf, q1]
        simp [fldW, ht, q2]
      rw [e]
      obtain ⟨i, hi, h⟩ := szW_ok h
      simp only [tyW] at h
      unfold opW.agTyW at h
      split at h
      · rename_i ag hag
        simp only [szW, hi]
        exact ⟨ag, hag, h⟩
      · exact h.elim
    obtain ⟨v, d, hrun, hk, hr⟩ := fieldW_ok (P := P) hx h'
    exact fin (by simp only [execOp, Sem.run_bind, hrun]; rfl) (left_same hs hk hr)
  | index t x i =>
    obtain ⟨dx, h, hx⟩ := evW_ok hG hs h
    obtain ⟨di, h, hi⟩ := evW_ok hG hs h
    simp only [tyW] at h
    unfold opW.inW at h
    split at h
    · rename_i ht
      cases di with
      | int kk n =>
        cases dx with
        | str s =>
          have h : 0 ≤ n ∧ ∃ h : n.toNat < s.length, k (.int .u8 (s[n.toNat]'h).toNat) S := by rw [ht] at h; exact h
          obtain ⟨v, d, hrun, hk, hr⟩ := inx_str_ok (P := P) (k := fun d => k d S) ht hx hi rfl h
          exact fin (by simp only [execOp, Sem.run_bind, hrun]; rfl) (left_same hs hk hr)
        | _ => rw [ht] at h; exact h.elim
      | _ => exact h.elim
    · rename_i len e ht
      obtain ⟨inf, hinf, h⟩ := szW_ok h
      cases di with
      | int kk n =>
        have h : 0 ≤ n ∧ n < len ∧ ∃ a, isAg (tyOf P e) = some a ∧ fvW dx a inf.size (n.toNat * inf.size) fun d => k d S := by
          rw [ht] at h; cases dx <;> exact h
        obtain ⟨v, d, hrun, hk, hr⟩ := inx_arr_ok (P := P) ht hinf hx hi rfl h
        exact fin (by simp only [execOp, Sem.run_bind, hrun]; rfl) (left_same hs hk hr)
      | _ => exact h.elim
    · exact h.elim
  | build t ps =>
    have h : tyW P t fun ty => opW.blTyW P ty (fun e => zeroW P t fun z => szW P e fun sz => bldW G S (fun i k => k (i * sz) sz) ps.toList z fun c => k (.oag c) S)
      (zeroW P t fun z => bldW G S (fun i k => fldW P t i fun o ft => szW P ft fun n => k o n) ps.toList z fun c => k (.oag c) S) := h
    simp only [tyW] at h
    unfold opW.blTyW at h
    split at h
    · rename_i n e ht
      obtain ⟨v, d, hrun, hk, hr⟩ := buildA_ok (P := P) (k := fun d => k d S) hG hs ht h
      exact fin (by simp only [execOp, Sem.run_bind, hrun]; rfl) (left_same hs hk hr)
    · rename_i fs ht
      obtain ⟨hall, h⟩ := h
      have hall' : ∀ p ∈ fs, ∃ inf, P.info? p.2 = some inf := fun p hp => by
        have := List.all_eq_true.1 hall p hp
        exact Option.isSome_iff_exists.1 this
      obtain ⟨v, d, hrun, hk, hr⟩ := buildS_ok (P := P) (k := fun d => k d S) hG hs ht (fun i o ft hi => hall' _ (List.mem_of_getElem? hi)) hall' h
      exact fin (by simp only [execOp, Sem.run_bind, hrun]; rfl) (left_same hs hk hr)
    · exact h.elim
  | buildSlice t n ps =>
    have h : tyW P t fun ty => slTyW ty fun e => szW P e fun sz => n * sz ≤ 16777216 ∧ n ≤ maxLen ∧ zeroW P e fun z => z.length = sz ∧ repW n z fun c0 => bldW G S (fun i k => k (i * sz) sz) ps.toList c0 fun c => allP c ∧ k (.slx sz n c) S := h
    simp only [tyW] at h
    unfold slTyW at h
    split at h
    · rename_i e ht
      obtain ⟨v, w', hrun, hl⟩ := buildSl_ok (P := P) hG hs ht h
      exact fin (by simp only [execOp, Sem.run_bind, hrun]; rfl) hl
    · exact h.elim
  | slice t x lo hi mx =>
    obtain ⟨dx, h, hx⟩ := evW_ok hG hs h
    obtain ⟨l, h, hl⟩ := boD_ok (F := fun _ => True) hG hs h
    obtain ⟨hh, h, hhi⟩ := boD_ok (F := fun _ => True) hG hs h
    obtain ⟨m, h, hm⟩ := boD_ok (F := fun _ => True) hG hs h
    simp only [tyW] at h
    unfold opW.seTyW at h
    have : ∃ e sz, ((∃ i, P.info? e = some i ∧ i.size = sz) ∧ (tyOf P t = .slice e ∨ ∃ n, tyOf P t = .arr n e) ∨ tyOf P t = .str) ∧ slcW (S := S) (tyOf P t) sz dx l hh m fun d => k d S := by
      split at h
      · rename_i ht
        exact ⟨0, 1, .inr ht, h⟩
      · rename_i e ht
        obtain ⟨i, hi, h⟩ := szW_ok h
        exact ⟨e, _, .inl ⟨⟨i, hi, rfl⟩, .inl ht⟩, h⟩
      · rename_i n e ht
        obtain ⟨i, hi, h⟩ := szW_ok h
        exact ⟨e, _, .inl ⟨⟨i, hi, rfl⟩, .inr ⟨n, ht⟩⟩, h⟩
      · exact h.elim
    obtain ⟨e, sz, hi, h⟩ := this
    obtain ⟨v, d, hrun, hk, hr⟩ := slcW_ok (P := P) hs hi hx hl hhi hm h
    exact fin (by simp only [execOp, Sem.run_bind, hrun]; rfl) (left_same hs hk hr)
  | makeSlice t l c =>
    obtain ⟨dl, h, hl⟩ := evW_ok hG hs h
    obtain ⟨dc, h, hc⟩ := evW_ok hG hs h
    cases dl with
    | int k1 n =>
      cases dc with
      | int k2 c' =>
        obtain ⟨e1, _⟩ := hl.int_inv
        obtain ⟨e2, _⟩ := hc.int_inv
        simp only [tyW] at h
        unfold slTyW at h
        split at h
        · rename_i e ht
          obtain ⟨v, w', hrun, hl⟩ := makeW_ok (P := P) (k1 := k1) (k2 := k2) hs ht h
          exact fin (by simp only [execOp, Sem.run_bind, e1, e2, hrun]; rfl) hl
        · exact h.elim
      | _ => exact h.elim
    | _ => exact h.elim
  | sliceToArrayPointer t x =>
    obtain ⟨dx, h, hx⟩ := evW_ok hG hs h
    simp only [tyW] at h
    unfold arTyW at h
    split at h
    · rename_i n e ht
      obtain ⟨v, d, hrun, hk, hr⟩ := s2aW_ok (P := P) ht hx h
      exact fin (by simp only [execOp, Sem.run_bind, hrun]; rfl) (left_same hs hk hr)
    · exact h.elim
  | makeFunc fn first caps =>
    cases fn with
    | func f =>
      obtain ⟨rfl, h⟩ := h
      obtain ⟨ds, hk, hl, hr⟩ := evLW_ok hG hs h
      exact fin (v := .func (.func f) #[] (caps.map a.eval)) (by simp [execOp, Instr.makeFunc]) (left_same hs hk (.ofn (by simpa using hl) fun i v d hv hd => hr i v d (by simpa [← Array.getElem?_toList] using hv) hd))
    | _ => exact h.elim
  | call c =>
    obtain ⟨callee, args, argTypes⟩ := c
    cases callee with
    | value f =>
      obtain ⟨df, h, hf⟩ := evW_ok hG hs h
      obtain ⟨ds, h, hl, hr⟩ := evLW_ok hG hs h
      have go : ∀ {fid : FuncId} {capv : Array Value} {ds' : List D} {b : Bool}, a.eval f = .func (.func fid) #[] capv → FArgs w (FL φ w) (args.toList.map a.eval ++ capv.toList) ds' → (b = false → FArgs w (FSx φ S.own w) (args.toList.map a.eval ++ capv.toList) ds') → callW G P fid ds' b S k →
          (Oper.mk dst (.call ⟨.value f, args, argTypes⟩) ty pos after guard).wpIn (fw r) N P a w K Q := by
        intro fid capv ds' b hfe h1 h2 h3
        obtain ⟨⟨fn, hfn, hbody, hname⟩, hc⟩ := callW_ok hG hs h1 h2 h3
        have e1 : (args.toList.map a.eval ++ capv.toList).toArray = args.map a.eval ++ capv := by
          apply Array.ext'; simp
        rw [e1] at hc
        have hb : fn.body ≠ none := by cases hx : fn.body <;> simp [hx] at hbody ⊢
        have hname' : fn.name ≠ "runtime.NumGoroutine" := by simpa using hname
        have hrun : (execOp a.eval (Oper.mk dst (.call ⟨.value f, args, argTypes⟩) ty pos after guard)).run P w = .ok (.enter fid (args.map a.eval ++ capv)) w := by
          simp [execOp, resolve, Deferred.ofValue, hfe, invoke, callFunc, hfn, hb, hname']
        refine ⟨fun _ _ => trivial, ?_⟩
        rw [Oper.semAt_eq _ _ _ hd, hrun, Oper.uponIn_enter]
        refine ⟨fun h => by simp [fw] at h, CallsIn.mono (callsIn_fw.2 hc) ?_⟩
        rintro e w' ⟨v, rfl, hl⟩
        exact hn _ _ hl
      cases df with
      | fn fid caps =>
        generalize hfe : a.eval f = fv at hf
        cases hf with
        | ro hf =>
          cases hf with
          | @fn _ capv _ q1 q2 =>
            obtain ⟨ds', b, h, ⟨l1, g1⟩, g2⟩ := coeLW_ok hs (vs := args.toList.map a.eval) hl hr h
            have app : ∀ {F : Nat → Prop}, (∀ (i : Nat) (v : Value) (d : D), (args.toList.map a.eval)[i]? = some v → ds'[i]? = some d → RepR w F v d) → (∀ (i : Nat) (v : Value) (d : D), capv[i]? = some v → caps[i]? = some d → RepR w F v d) → FArgs w F (args.toList.map a.eval ++ capv.toList) (ds' ++ caps) := by
              intro F m1 m2
              refine ⟨by rw [List.length_append, List.length_append, l1]; simp [q1], fun i v d hv hd => ?_⟩
              rw [List.getElem?_append] at hv hd
              split at hv
              · rename_i hi
                rw [if_pos (by rw [← l1]; exact hi)] at hd
                exact m1 i v d hv hd
              · rename_i hi
                rw [if_neg (by rw [← l1]; exact hi), ← l1] at hd
                exact m2 _ v d (by simpa using hv) hd
            exact go hfe (app g1 fun i v d hv hd => (q2 i v d hv hd).mono (fun _ _ => rfl) fun b hb => ⟨hb.3, hb.1⟩) (fun hb => app (g2 hb).2 q2) h
      | ofn fid caps =>
        generalize hfe : a.eval f = fv at hf
        cases hf with
        | ro hf => cases hf
        | @ofn _ capv _ q1 q2 =>
          obtain ⟨ds', b, h, g1, g2⟩ := coeLW_ok hs (vs := args.toList.map a.eval ++ capv.toList) (by simp [q1]; simpa using hl) (fun i v d hv hd => by
            have hl' : args.toList.length = ds.length := by simpa using hl
            rw [List.getElem?_append] at hv hd
            split at hv
            · rename_i hi
              rw [if_pos (by rw [← hl]; exact hi)] at hd
              exact hr i v d hv hd
            · rename_i hi
              simp only [List.length_map] at hi hv
              rw [if_neg (by omega), ← hl'] at hd
              exact q2 _ v d (by simpa using hv) hd) h
          exact go hfe g1 g2 h
      | _ => exact h.elim
    | builtin b =>
      obtain ⟨ds, h, hl, hr⟩ := evLW_ok hG hs h
      have vals : args.map a.eval = (args.toList.map a.eval).toArray := by apply Array.ext'; simp
      have bfin : ∀ {v w'}, (∀ consts, (builtin b argTypes ty consts (args.map a.eval)).run P w = .ok (.value v) w') → Left w0 S a.tmps k v w' → (Oper.mk dst (.call ⟨.builtin b, args, argTypes⟩) ty pos after guard).wpIn (fw r) N P a w K Q := by
        intro v w' hrun hl
        exact fin (by simp only [execOp, resolve, Sem.run_bind, Sem.run_pure, Result.andThen_ok, invoke, hrun]) hl
      have tys : argTypes = argTypes.toList.toArray := by simp
      unfold builtinW at h
      split at h
      · -- len
        rename_i t d e1 _
        obtain ⟨x, hx⟩ : ∃ x, args.toList.map a.eval = [x] := by
          rcases hq : args.toList.map a.eval with _ | ⟨x, _ | ⟨y, r⟩⟩
          · rw [hq] at hl; simp at hl
          · exact ⟨x, rfl⟩
          · rw [hq] at hl; simp at hl
        obtain ⟨v, d', hrun, hk, hr'⟩ := lnW_ok (P := P) (T := t) (ty := ty) (k := fun d => k d S) (hr 0 x d (by rw [hx]; rfl) rfl) h
        refine bfin (fun consts => ?_) (left_same hs hk (.ro hr'))
        rw [vals, hx, tys, e1]
        simp only [builtin, Sem.run_bind, hrun]; rfl
      · -- append
        rename_i t u s d e1 _
        obtain ⟨x, y, hx⟩ : ∃ x y, args.toList.map a.eval = [x, y] := by
          rcases hq : args.toList.map a.eval with _ | ⟨x, _ | ⟨y, _ | ⟨z, r⟩⟩⟩
          · rw [hq] at hl; simp at hl
          · rw [hq] at hl; simp at hl
          · exact ⟨x, y, rfl⟩
          · rw [hq] at hl; simp at hl
        simp only [tyW] at h
        unfold slTyW at h
        split at h
        · rename_i e ht
          have hu : (∃ w, P.underlying u = some w ∧ ∀ k, w ≠ .int k) ∧ szW P e fun sz => byW P e fun by_ => zeroW P e fun z => z.length = sz ∧ srcW S sz d fun m es => appW S sz by_ s m es k := by
            unfold nintW at h
            split at h
            · rename_i e2 h2; exact ⟨⟨_, tyOf_slice h2, by simp⟩, h⟩
            · rename_i h2; exact ⟨⟨_, tyOf_str h2, by simp⟩, h⟩
            · exact h.elim
          obtain ⟨⟨w1, hw1, hw2⟩, h⟩ := hu
          obtain ⟨ie, hie, h⟩ := szW_ok h
          obtain ⟨ib, hib, h⟩ := byW_ok h
          rw [hie] at hib; cases hib
          obtain ⟨iz, z, hiz, hz, _, hzl, h⟩ := zeroW_ok h
          rw [hie] at hiz; cases hiz
          obtain ⟨m, es, vs, h, src⟩ := srcW_ok (P := P) hs (hr 1 y d (by rw [hx]; rfl) rfl) h
          obtain ⟨v, w', hrun, hl⟩ := appW_ok (P := P) (ty := ty) hs (AppTy.mk (tyOf_slice ht) hie hz (by simpa using hzl) hw1 hw2) src (hr 0 x s (by rw [hx]; rfl) rfl) h
          refine bfin (fun consts => ?_) hl
          rw [vals, hx, tys, e1]
          simp only [builtin, Sem.run_bind, hrun]; rfl
        · exact h.elim
      · -- copy
        rename_i t u s d e1 _
        obtain ⟨x, y, hx⟩ : ∃ x y, args.toList.map a.eval = [x, y] := by
          rcases hq : args.toList.map a.eval with _ | ⟨x, _ | ⟨y, _ | ⟨z, r⟩⟩⟩
          · rw [hq] at hl; simp at hl
          · rw [hq] at hl; simp at hl
          · exact ⟨x, y, rfl⟩
          · rw [hq] at hl; simp at hl
        simp only [tyW] at h
        unfold slTyW at h
        split at h
        · rename_i e ht
          obtain ⟨ie, hie, h⟩ := szW_ok h
          obtain ⟨m, es, vs, h, src⟩ := srcW_ok (P := P) hs (hr 1 y d (by rw [hx]; rfl) rfl) h
          obtain ⟨v, w', hrun, hl⟩ := cpyW_ok (P := P) (U := u) (ty := ty) hs (tyOf_slice ht) hie (hr 0 x s (by rw [hx]; rfl) rfl) src h
          refine bfin (fun consts => ?_) hl
          rw [vals, hx, tys, e1]
          simp only [builtin, Sem.run_bind, hrun]; rfl
        · exact h.elim
      · -- max
        rename_i d ds' _
        obtain ⟨x, r, hx⟩ : ∃ x r, args.toList.map a.eval = x :: r := by
          rcases hq : args.toList.map a.eval with _ | ⟨x, r⟩
          · rw [hq] at hl; simp at hl
          · exact ⟨x, r, rfl⟩
        rw [hx] at hl hr
        obtain ⟨v, d', hrun, hk, hr'⟩ := mxW_ok (P := P) (by simpa using hl) (hr 0 x d rfl rfl) (fun i v d hv hd => hr (i + 1) v d (by simpa using hv) (by simpa using hd)) h
        refine bfin (fun consts => ?_) (left_same hs hk hr')
        rw [vals, hx]
        simp only [builtin, Builtin.max_, Sem.run_bind]
        simp only [if_true] at hrun
        rw [hrun]; rfl
      · -- min
        rename_i d ds' _
        obtain ⟨x, r, hx⟩ : ∃ x r, args.toList.map a.eval = x :: r := by
          rcases hq : args.toList.map a.eval with _ | ⟨x, r⟩
          · rw [hq] at hl; simp at hl
          · exact ⟨x, r, rfl⟩
        rw [hx] at hl hr
        obtain ⟨v, d', hrun, hk, hr'⟩ := mxW_ok (P := P) (by simpa using hl) (hr 0 x d rfl rfl) (fun i v d hv hd => hr (i + 1) v d (by simpa using hv) (by simpa using hd)) h
        refine bfin (fun consts => ?_) (left_same hs hk hr')
        rw [vals, hx]
        simp only [builtin, Builtin.min_, Sem.run_bind]
        simp only [Bool.false_eq_true, if_false] at hrun
        rw [hrun]; rfl
      · exact h.elim
    | invoke _ _ => exact h.elim
  | _ => exact h.elim
end
#print axioms opW_ok
end Go.Abs
end
