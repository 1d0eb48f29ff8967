/-
  AN ABSTRACT WALK, fifteenth text: every operation that the walk knows, in the machine.
-/
import Derived.Test.YtdjfnipabekkaaaAbs14
namespace Go.Abs
open Go.RowKit (Below)

section
variable {P : Program} {G : Glob} {w0 : Bas} {w : World} {S : St} {a : Act} {K : Act → World → Prop} {Q : Exit → Act → World → Prop} {k : D → St → Prop} {φ : Loc} {tmps : Array Value} {r : Option Nat} {N : Nat}

theorem cpyW_ok (hs : SatC w0 φ S tmps w) {T U e ty : TypeId} {i : TypeInfo} (ht : P.underlying T = some (.slice e)) (hi : P.info? e = some i) {dv x : Value} {d : D} {m : Nat} {es : List D} {vs : List Value} (hd : Rep φ w (FSx φ S.own w) dv d)
    (src : Src P w (FSx φ S.own w) i.size x m es vs) (h : cpyW S i.size d m es k) : ∃ v w', (Builtin.copy_ #[T, U] ty #[dv, x]).run P w = .ok v w' ∧ Left w0 S tmps k v w' := by
  have core : ∀ (n : Nat) (p : Option Addr) (c' : Nat), dv = .slice p n c' → n ≤ maxLen → ∀ w', (∀ q, p = some q → (storeCells q (vs.take (min m n * i.size))).run P w = .ok () w') → (p = none → w' = w) → (Builtin.copy_ #[T, U] ty #[dv, x]).run P w = .ok (goInt (min m n : Nat)) w' := by
    rintro n p c' rfl hn w' hst hno
    have hc := src.cells (min m n) (Nat.min_le_left _ _) w (fun _ _ => rfl)
    have hl := src.len w
    cases p with
    | none =>
      cases hno rfl
      have e : Nat.min m n = min m n := rfl
      simp [Builtin.copy_, run_underlying ht, sizeOf, e, hl, hi, typeInfo, hc]
    | some q =>
      have := hst q rfl
      have e : Nat.min m n = min m n := rfl
      simp [Builtin.copy_, run_underlying ht, sizeOf, e, hl, hi, typeInfo, hc, this]
  have hlt : ∀ n, (vs.take (min m n * i.size)).length = (es.take (min m n * i.size)).length := fun n => by simp [src.lv, src.lc]
  have hle : ∀ n, (es.take (min m n * i.size)).length = min m n * i.size := fun n => by
    rw [List.length_take, src.lc]; exact Nat.min_eq_left (Nat.mul_le_mul_right _ (Nat.min_le_left _ _))
  have hrep : ∀ n, ∀ (j : Nat) (v : Value) (d : D), (vs.take (min m n * i.size))[j]? = some v → (es.take (min m n * i.size))[j]? = some d → Rep φ w (FSx φ S.own w) v d ∧ v.oneCell' = true := fun n j v d hv hd => by
    rw [List.getElem?_take] at hv hd
    split at hv
    · rename_i hj
      rw [if_pos hj] at hd
      exact ⟨.ro (src.rep j v d hv hd).1, (src.rep j v d hv hd).2⟩
    · cases hv
  have hfin : ∀ n, n ≤ maxLen → ∀ w', RepR w' (FSx φ S.own w') (goInt (min m n : Nat)) (.int .i64 (min m n : Nat)) := fun n hn w' => by
    have := inR_len (n := min m n) (by omega)
    exact .int this.1 this.2
  have hfin' : ∀ n, n ≤ maxLen → ∀ w' own', RepR w' (FSx φ own' w') (goInt (min m n : Nat)) (.int .i64 (min m n : Nat)) := fun n hn w' own' => by
    have := inR_len (n := min m n) (by omega)
    exact .int this.1 this.2
  have empty : ∀ (id : Nat) (c : List D) (off : Nat), lk id S.own = some c → SatC w0 φ ⟨S.n, S.nx, S.env, setO id (splD c off []) S.own⟩ tmps w := fun id c off hid => by
    have : splD c off [] = c := by simp [splD]
    rw [this]
    exact SatC.congr_own hs (lk_setO_eq hid)
  cases d with
  | osl id sz' n =>
    obtain ⟨c, hid, rfl, hl, hk⟩ := lkoW_ok h
    cases hd with
    | ro hd => cases hd
    | @osl0 _ _ p hb =>
      have h0 : (es.take (min m 0 * i.size)) = [] := List.eq_nil_of_length_eq_zero (by rw [hle]; simp)
      have h1 : (vs.take (min m 0 * i.size)) = [] := List.eq_nil_of_length_eq_zero (by rw [hlt, hle]; simp)
      refine ⟨_, w, core 0 p 0 rfl (by simp [maxLen]) w (fun q _ => by rw [h1]; rfl) (fun _ => rfl), φ, _, _, hk, ?_, .ro (hfin' 0 (by simp [maxLen]) _ _), rfl⟩
      rw [h0]; exact empty id c 0 hid
    | @osl _ _ _ c' b hb he hn hm =>
      obtain ⟨w', hrun, hs', _⟩ := hs.store (P := P) (off := 0) (vs := vs.take (min m n * i.size)) (ds := es.take (min m n * i.size)) hid hb (hlt n) (by rw [hle, hl, Nat.zero_add]; exact Nat.mul_le_mul_right _ (Nat.min_le_right _ _)) (hrep n)
      exact ⟨_, w', core n _ _ rfl (by omega) w' (fun q hq => by cases hq; exact hrun) (fun h => by cases h), φ, _, _, hk, hs', .ro (hfin' n (by omega) _ _), rfl⟩
  | osw id off sz' n =>
    obtain ⟨c, hid, rfl, hl, hk⟩ := lkoW_ok h
    cases hd with
    | ro hd => cases hd
    | @osw0 _ _ _ c' p hc' =>
      have h0 : (es.take (min m 0 * i.size)) = [] := List.eq_nil_of_length_eq_zero (by rw [hle]; simp)
      have h1 : (vs.take (min m 0 * i.size)) = [] := List.eq_nil_of_length_eq_zero (by rw [hlt, hle]; simp)
      refine ⟨_, w, core 0 p c' rfl (by simp [maxLen]) w (fun q _ => by rw [h1]; rfl) (fun _ => rfl), φ, _, _, hk, ?_, .ro (hfin' 0 (by simp [maxLen]) _ _), rfl⟩
      rw [h0]; exact empty id c off hid
    | @osw _ _ _ _ c' b hb hn hm hsz =>
      obtain ⟨w', hrun, hs', _⟩ := hs.store (P := P) (off := off) (vs := vs.take (min m n * i.size)) (ds := es.take (min m n * i.size)) hid hb (hlt n) (by
        rw [hle]
        have : min m n * i.size ≤ n * i.size := Nat.mul_le_mul_right _ (Nat.min_le_right _ _)
        omega) (hrep n)
      exact ⟨_, w', core n _ _ rfl (by omega) w' (fun q hq => by cases hq; exact hrun) (fun h => by cases h), φ, _, _, hk, hs', .ro (hfin' n (by omega) _ _), rfl⟩
  | _ => exact h.elim

/-- What stands behind an operation. -/
def Next (w0 : Bas) (S : St) (a : Act) (o : Oper) (k : D → St → Prop) (K : Act → World → Prop) : Prop := ∀ v w', Left w0 S a.tmps k v w' → K (a.put o.dst v) w'

theorem boD_ok {F : Nat → Prop} (hG : GOk G w0) (hs : SatC w0 φ S a.tmps w) {x : Option Operand} {kk : Option Int → Prop} (h : evOW G S x fun d => boD d kk) : ∃ l, kk l ∧ BoOk w (x.map a.eval) l := by
  cases x with
  | none => exact ⟨none, h, trivial⟩
  | some x =>
    obtain ⟨d, h, hd⟩ := evW_ok hG hs h
    cases d with
    | int k n => obtain ⟨e, _⟩ := hd.int_inv; exact ⟨some n, h, k, e⟩
    | _ => exact h.elim

theorem ncW_ok {F : Nat → Prop} {v : Value} {d : D} {A : Prop} (hr : Rep φ w F v d) (h : ncW d A) : A ∧ ((∃ p, v = .pointer (some p)) ∨ ∃ f c, v = .func (.func f) #[] c) := by
  cases d with
  | ptr id off => cases hr with
    | ro hr => cases hr
    | ptr hb => exact ⟨h, .inl ⟨_, rfl⟩⟩
  | rop cs off => cases hr with | ro hr => cases hr; exact ⟨h, .inl ⟨_, rfl⟩⟩
  | fn f caps => cases hr with | ro hr => cases hr; exact ⟨h, .inr ⟨_, _, rfl⟩⟩
  | ofn f caps => cases hr with
    | ro hr => cases hr
    | ofn => exact ⟨h, .inr ⟨_, _, rfl⟩⟩
  | _ => exact h.elim

set_option maxHeartbeats 1000000 in
theorem opW_ok (hG : GOk G w0) (hs : SatC w0 φ S a.tmps w) (o : Oper) (h : opW G P o.op S k) (hn : Next w0 S a o k K) : o.wpIn (fw r) N P a w K Q := by
  obtain ⟨dst, op, ty, pos, after, guard⟩ := o
  have hd : ∀ c, (Oper.mk dst op ty pos after guard).op ≠ .defer c := by rintro c rfl; exact h
  have same : ∀ {v d}, k d S → Rep φ w (FSx φ S.own w) v d → K (a.put dst v) w := fun hk hr => hn _ w (left_same hs hk hr)
  have fin : ∀ {v w'}, (execOp a.eval ⟨dst, op, ty, pos, after, guard⟩).run P w = .ok (.value v) w' → Left w0 S a.tmps k v w' → (Oper.mk dst op ty pos after guard).wpIn (fw r) N P a w K Q := fun hr hl => wp_val hd hr (hn _ _ hl)
  cases op with
  | move x =>
    obtain ⟨d, hk, hd⟩ := evW_ok hG hs h
    exact fin rfl (left_same hs hk hd)
  | assign x =>
    obtain ⟨d, hk, hd⟩ := evW_ok hG hs h
    exact fin rfl (left_same hs hk hd)
  | pick c x y =>
    obtain ⟨d, h, hd⟩ := evW_ok hG hs h
    cases d with
    | bool t =>
      have e := hd.bool_inv
      cases t with
      | true =>
        obtain ⟨d, hk, hd⟩ := evW_ok hG hs h
        exact fin (by simp [execOp, e, asBool]) (left_same hs hk hd)
      | false =>
        obtain ⟨d, hk, hd⟩ := evW_ok hG hs h
        exact fin (by simp [execOp, e, asBool]) (left_same hs hk hd)
    | _ => exact h.elim
  | nilCheck x =>
    obtain ⟨d, h, hd⟩ := evW_ok hG hs h
    obtain ⟨hk, ⟨p, e⟩ | ⟨f, c, e⟩⟩ := ncW_ok hd h
    · exact fin (by simp only [execOp, e]; rfl) (left_same hs hk hd)
    · exact fin (by simp only [execOp, e]; rfl) (left_same hs hk hd)
  | binOp op t x y yt =>
    obtain ⟨dx, h, hx⟩ := evW_ok hG hs h
    obtain ⟨dy, h, hy⟩ := evW_ok hG hs h
    obtain ⟨v, d, hrun, hk, hr⟩ := bnW_ok (P := P) hx hy h x y
    exact fin (by simp only [execOp, Sem.run_bind] at hrun ⊢; rw [hrun]; rfl) (left_same hs hk (.ro hr))
  | unOp op t x =>
    obtain ⟨dx, h, hx⟩ := evW_ok hG hs h
    obtain ⟨v, d, hrun, hk, hr⟩ := unW_ok (P := P) (w := w) hx h
    exact fin (by simp only [execOp, Sem.run_bind, hrun]; rfl) (left_same hs hk (.ro hr))
  | convert s d x =>
    obtain ⟨dx, h, hx⟩ := evW_ok hG hs h
    have h : opW.cvtW P (tyOf P s) (tyOf P d) (cvW S (tyOf P s) (tyOf P d) dx k) := h
    have key : ∀ {e}, tyW P e (fun te => match te with | .int .u8 => cvW S (tyOf P s) (tyOf P d) dx k | _ => False) → P.underlying e = some (.int .u8) ∧ cvW S (tyOf P s) (tyOf P d) dx k := by
      intro e h
      simp only [tyW] at h
      split at h
      · rename_i he; exact ⟨tyOf_int he, h⟩
      · exact h.elim
    have conc : (∀ e, tyOf P s = .slice e ∨ tyOf P d = .slice e → P.underlying e = some (.int .u8)) → (∃ u, P.underlying s = some u) → cvW S (tyOf P s) (tyOf P d) dx k → (Oper.mk dst (.convert s d x) ty pos after guard).wpIn (fw r) N P a w K Q := by
      intro h1 h2 h4
      obtain ⟨v, w', hrun, hl⟩ := cvW_ok (P := P) hs h1 hx h2 h4
      exact fin (by simp only [execOp, Sem.run_bind, hrun]; rfl) hl
    unfold opW.cvtW at h
    split at h
    · rename_i k1 k2 e1 e2
      exact conc (fun e he => by rw [e1, e2] at he; simp at he) ⟨_, tyOf_int e1⟩ h
    · rename_i e1 e2
      exact conc (fun e he => by rw [e1, e2] at he; simp at he) ⟨_, tyOf_str e1⟩ h
    · rename_i e e1 e2
      obtain ⟨hu, h⟩ := key h
      exact conc (fun e' he => by rw [e1, e2] at he; simp at he; subst he; exact hu) ⟨_, tyOf_str e1⟩ h
    · rename_i e e1 e2
      obtain ⟨hu, h⟩ := key h
      exact conc (fun e' he => by rw [e1, e2] at he; simp at he; subst he; exact hu) ⟨_, tyOf_slice e1⟩ h
    · exact h.elim
  | extract x i =>
    obtain ⟨dx, h, hx⟩ := evW_ok hG hs h
    obtain ⟨v, d, hrun, hk, hr⟩ := exW_ok (P := P) (w := w) hx h
    exact fin (by simp only [execOp, Sem.run_bind, hrun]; rfl) (left_same hs hk (.ro hr))
  | alloc t =>
    obtain ⟨v, w', hrun, hl⟩ := allocW_ok (P := P) hs h
    exact fin (by simp only [execOp, Sem.run_bind, hrun]; rfl) hl
  | box t x =>
    obtain ⟨dx, h, hx⟩ := evW_ok hG hs h
    obtain ⟨v, w', hrun, hl⟩ := boxW_ok (P := P) (t := t) hs hx h
    exact fin (by simp only [execOp, Sem.run_bind, hrun]; rfl) hl
  | load t p =>
    obtain ⟨dx, h, hx⟩ := evW_ok hG hs h
    simp only [tyW] at h
    obtain ⟨i, hi, h⟩ := szW_ok h
    unfold opW.agTyW at h
    split at h
    · rename_i ag hag
      obtain ⟨v, d, hrun, hk, hr⟩ := loadW_ok (P := P) hs hx hag hi h
      exact fin (by simp only [execOp, Sem.run_bind, hrun]; rfl) (left_same hs hk hr)
    · exact h.elim
  | store t p x =>
    obtain ⟨dp, h, hp⟩ := evW_ok hG hs h
    obtain ⟨dx, h, hx⟩ := evW_ok hG hs h
    obtain ⟨i, hi, h⟩ := szW_ok h
    obtain ⟨w', hrun, hl⟩ := storeW_ok (P := P) hs hi hp hx h
    exact wp_skp hd (by simp only [execOp, Sem.run_bind, hrun]; rfl) (hn _ _ (hl _))
  | indexAddr t x i =>
    obtain ⟨dx, h, hx⟩ := evW_ok hG hs h
    obtain ⟨di, h, hi⟩ := evW_ok hG hs h
    simp only [tyW] at h
    unfold opW.elTyW at h
    split at h
    · rename_i e he
      obtain ⟨inf, hinf, h⟩ := szW_ok h
      obtain ⟨v, d, hrun, hk, hr⟩ := ixW_ok (P := P) hs hinf (.inr he) hx hi h
      exact fin (by simp only [execOp, Sem.run_bind, hrun]; rfl) (left_same hs hk hr)
    · rename_i n e he
      obtain ⟨inf, hinf, h⟩ := szW_ok h
      obtain ⟨v, d, hrun, hk, hr⟩ := ixW_ok (P := P) hs hinf (.inl ⟨_, he⟩) hx hi h
      exact fin (by simp only [execOp, Sem.run_bind, hrun]; rfl) (left_same hs hk hr)
    · exact h.elim
  | fieldAddr t x f =>
    obtain ⟨dx, h, hx⟩ := evW_ok hG hs h
    obtain ⟨v, d, hrun, hk, hr⟩ := faW_ok (P := P) hs hx h
    exact fin (by simp only [execOp, Sem.run_bind, hrun]; rfl) (left_same hs hk hr)
  | field t x f =>
    obtain ⟨dx, h, hx⟩ := evW_ok hG hs h
    have h' : fldW P t f fun o ft => szW P ft fun n => ∃ ag, isAg (tyOf P ft) = some ag ∧ fvW dx ag n o fun d => k d S := by
      obtain ⟨fa, fx, q1, q2, h⟩ := fldW_ok h
      have e : fldW P t f = fun kk => kk fx.offset fx.type := by
        funext kk
        have ht : tyOf P t = .struct (fa.toList.map fun f => (f.offset, f.type)) := by simp [tyOf, q1]
        simp [fldW, ht, q2]
      rw [e]
      obtain ⟨i, hi, h⟩ := szW_ok h
      simp only [tyW] at h
      unfold opW.agTyW at h
      split at h
      · rename_i ag hag
        simp only [szW, hi]
        exact ⟨ag, hag, h⟩
      · exact h.elim
    obtain ⟨v, d, hrun, hk, hr⟩ := fieldW_ok (P := P) hx h'
    exact fin (by simp only [execOp, Sem.run_bind, hrun]; rfl) (left_same hs hk hr)
  | index t x i =>
    obtain ⟨dx, h, hx⟩ := evW_ok hG hs h
    obtain ⟨di, h, hi⟩ := evW_ok hG hs h
    simp only [tyW] at h
    unfold opW.inW at h
    split at h
    · rename_i ht
      cases di with
      | int kk n =>
        cases dx with
        | str s =>
          have h : 0 ≤ n ∧ ∃ h : n.toNat < s.length, k (.int .u8 (s[n.toNat]'h).toNat) S := by rw [ht] at h; exact h
          obtain ⟨v, d, hrun, hk, hr⟩ := inx_str_ok (P := P) (k := fun d => k d S) ht hx hi rfl h
          exact fin (by simp only [execOp, Sem.run_bind, hrun]; rfl) (left_same hs hk hr)
        | _ => rw [ht] at h; exact h.elim
      | _ => exact h.elim
    · rename_i len e ht
      obtain ⟨inf, hinf, h⟩ := szW_ok h
      cases di with
      | int kk n =>
        have h : 0 ≤ n ∧ n < len ∧ ∃ a, isAg (tyOf P e) = some a ∧ fvW dx a inf.size (n.toNat * inf.size) fun d => k d S := by
          rw [ht] at h; cases dx <;> exact h
        obtain ⟨v, d, hrun, hk, hr⟩ := inx_arr_ok (P := P) ht hinf hx hi rfl h
        exact fin (by simp only [execOp, Sem.run_bind, hrun]; rfl) (left_same hs hk hr)
      | _ => exact h.elim
    · exact h.elim
  | build t ps =>
    have h : tyW P t fun ty => opW.blTyW P ty (fun e => zeroW P t fun z => szW P e fun sz => bldW G S (fun i k => k (i * sz) sz) ps.toList z fun c => k (.oag c) S)
      (zeroW P t fun z => bldW G S (fun i k => fldW P t i fun o ft => szW P ft fun n => k o n) ps.toList z fun c => k (.oag c) S) := h
    simp only [tyW] at h
    unfold opW.blTyW at h
    split at h
    · rename_i n e ht
      obtain ⟨v, d, hrun, hk, hr⟩ := buildA_ok (P := P) (k := fun d => k d S) hG hs ht h
      exact fin (by simp only [execOp, Sem.run_bind, hrun]; rfl) (left_same hs hk hr)
    · rename_i fs ht
      obtain ⟨hall, h⟩ := h
      have hall' : ∀ p ∈ fs, ∃ inf, P.info? p.2 = some inf := fun p hp => by
        have := List.all_eq_true.1 hall p hp
        exact Option.isSome_iff_exists.1 this
      obtain ⟨v, d, hrun, hk, hr⟩ := buildS_ok (P := P) (k := fun d => k d S) hG hs ht (fun i o ft hi => hall' _ (List.mem_of_getElem? hi)) hall' h
      exact fin (by simp only [execOp, Sem.run_bind, hrun]; rfl) (left_same hs hk hr)
    · exact h.elim
  | buildSlice t n ps =>
    have h : tyW P t fun ty => slTyW ty fun e => szW P e fun sz => n * sz ≤ 16777216 ∧ n ≤ maxLen ∧ zeroW P e fun z => z.length = sz ∧ repW n z fun c0 => bldW G S (fun i k => k (i * sz) sz) ps.toList c0 fun c => allP c ∧ k (.slx sz n c) S := h
    simp only [tyW] at h
    unfold slTyW at h
    split at h
    · rename_i e ht
      obtain ⟨v, w', hrun, hl⟩ := buildSl_ok (P := P) hG hs ht h
      exact fin (by simp only [execOp, Sem.run_bind, hrun]; rfl) hl
    · exact h.elim
  | slice t x lo hi mx =>
    obtain ⟨dx, h, hx⟩ := evW_ok hG hs h
    obtain ⟨l, h, hl⟩ := boD_ok (F := fun _ => True) hG hs h
    obtain ⟨hh, h, hhi⟩ := boD_ok (F := fun _ => True) hG hs h
    obtain ⟨m, h, hm⟩ := boD_ok (F := fun _ => True) hG hs h
    simp only [tyW] at h
    unfold opW.seTyW at h
    have : ∃ e sz, ((∃ i, P.info? e = some i ∧ i.size = sz) ∧ (tyOf P t = .slice e ∨ ∃ n, tyOf P t = .arr n e) ∨ tyOf P t = .str) ∧ slcW (S := S) (tyOf P t) sz dx l hh m fun d => k d S := by
      split at h
      · rename_i ht
        exact ⟨0, 1, .inr ht, h⟩
      · rename_i e ht
        obtain ⟨i, hi, h⟩ := szW_ok h
        exact ⟨e, _, .inl ⟨⟨i, hi, rfl⟩, .inl ht⟩, h⟩
      · rename_i n e ht
        obtain ⟨i, hi, h⟩ := szW_ok h
        exact ⟨e, _, .inl ⟨⟨i, hi, rfl⟩, .inr ⟨n, ht⟩⟩, h⟩
      · exact h.elim
    obtain ⟨e, sz, hi, h⟩ := this
    obtain ⟨v, d, hrun, hk, hr⟩ := slcW_ok (P := P) hs hi hx hl hhi hm h
    exact fin (by simp only [execOp, Sem.run_bind, hrun]; rfl) (left_same hs hk hr)
  | makeSlice t l c =>
    obtain ⟨dl, h, hl⟩ := evW_ok hG hs h
    obtain ⟨dc, h, hc⟩ := evW_ok hG hs h
    cases dl with
    | int k1 n =>
      cases dc with
      | int k2 c' =>
        obtain ⟨e1, _⟩ := hl.int_inv
        obtain ⟨e2, _⟩ := hc.int_inv
        simp only [tyW] at h
        unfold slTyW at h
        split at h
        · rename_i e ht
          obtain ⟨v, w', hrun, hl⟩ := makeW_ok (P := P) (k1 := k1) (k2 := k2) hs ht h
          exact fin (by simp only [execOp, Sem.run_bind, e1, e2, hrun]; rfl) hl
        · exact h.elim
      | _ => exact h.elim
    | _ => exact h.elim
  | sliceToArrayPointer t x =>
    obtain ⟨dx, h, hx⟩ := evW_ok hG hs h
    simp only [tyW] at h
    unfold arTyW at h
    split at h
    · rename_i n e ht
      obtain ⟨v, d, hrun, hk, hr⟩ := s2aW_ok (P := P) ht hx h
      exact fin (by simp only [execOp, Sem.run_bind, hrun]; rfl) (left_same hs hk hr)
    · exact h.elim
  | makeFunc fn first caps =>
    cases fn with
    | func f =>
      obtain ⟨rfl, h⟩ := h
      obtain ⟨ds, hk, hl, hr⟩ := evLW_ok hG hs h
      exact fin (v := .func (.func f) #[] (caps.map a.eval)) (by simp [execOp, Instr.makeFunc]) (left_same hs hk (.ofn (by simpa using hl) fun i v d hv hd => hr i v d (by simpa [← Array.getElem?_toList] using hv) hd))
    | _ => exact h.elim
  | call c =>
    obtain ⟨callee, args, argTypes⟩ := c
    cases callee with
    | value f =>
      obtain ⟨df, h, hf⟩ := evW_ok hG hs h
      obtain ⟨ds, h, hl, hr⟩ := evLW_ok hG hs h
      have go : ∀ {fid : FuncId} {capv : Array Value} {ds' : List D} {b : Bool}, a.eval f = .func (.func fid) #[] capv → FArgs w (FL φ w) (args.toList.map a.eval ++ capv.toList) ds' → (b = false → FArgs w (FSx φ S.own w) (args.toList.map a.eval ++ capv.toList) ds') → callW G P fid ds' b S k →
          (Oper.mk dst (.call ⟨.value f, args, argTypes⟩) ty pos after guard).wpIn (fw r) N P a w K Q := by
        intro fid capv ds' b hfe h1 h2 h3
        obtain ⟨⟨fn, hfn, hbody, hname⟩, hc⟩ := callW_ok hG hs h1 h2 h3
        have e1 : (args.toList.map a.eval ++ capv.toList).toArray = args.map a.eval ++ capv := by
          apply Array.ext'; simp
        rw [e1] at hc
        have hb : fn.body ≠ none := by cases hx : fn.body <;> simp [hx] at hbody ⊢
        have hname' : fn.name ≠ "runtime.NumGoroutine" := by simpa using hname
        have hrun : (execOp a.eval (Oper.mk dst (.call ⟨.value f, args, argTypes⟩) ty pos after guard)).run P w = .ok (.enter fid (args.map a.eval ++ capv)) w := by
          simp [execOp, resolve, Deferred.ofValue, hfe, invoke, callFunc, hfn, hb, hname']
        refine ⟨fun _ _ => trivial, ?_⟩
        rw [Oper.semAt_eq _ _ _ hd, hrun, Oper.uponIn_enter]
        refine ⟨fun h => by simp [fw] at h, CallsIn.mono (callsIn_fw.2 hc) ?_⟩
        rintro e w' ⟨v, rfl, hl⟩
        exact hn _ _ hl
      cases df with
      | fn fid caps =>
        generalize hfe : a.eval f = fv at hf
        cases hf with
        | ro hf =>
          cases hf with
          | @fn _ capv _ q1 q2 =>
            obtain ⟨ds', b, h, ⟨l1, g1⟩, g2⟩ := coeLW_ok hs (vs := args.toList.map a.eval) hl hr h
            have app : ∀ {F : Nat → Prop}, (∀ (i : Nat) (v : Value) (d : D), (args.toList.map a.eval)[i]? = some v → ds'[i]? = some d → RepR w F v d) → (∀ (i : Nat) (v : Value) (d : D), capv[i]? = some v → caps[i]? = some d → RepR w F v d) → FArgs w F (args.toList.map a.eval ++ capv.toList) (ds' ++ caps) := by
              intro F m1 m2
              refine ⟨by rw [List.length_append, List.length_append, l1]; simp [q1], fun i v d hv hd => ?_⟩
              rw [List.getElem?_append] at hv hd
              split at hv
              · rename_i hi
                rw [if_pos (by rw [← l1]; exact hi)] at hd
                exact m1 i v d hv hd
              · rename_i hi
                rw [if_neg (by rw [← l1]; exact hi), ← l1] at hd
                exact m2 _ v d (by simpa using hv) hd
            exact go hfe (app g1 fun i v d hv hd => (q2 i v d hv hd).mono (fun _ _ => rfl) fun b hb => ⟨hb.3, hb.1⟩) (fun hb => app (g2 hb).2 q2) h
      | ofn fid caps =>
        generalize hfe : a.eval f = fv at hf
        cases hf with
        | ro hf => cases hf
        | @ofn _ capv _ q1 q2 =>
          obtain ⟨ds', b, h, g1, g2⟩ := coeLW_ok hs (vs := args.toList.map a.eval ++ capv.toList) (by simp [q1]; simpa using hl) (fun i v d hv hd => by
            have hl' : args.toList.length = ds.length := by simpa using hl
            rw [List.getElem?_append] at hv hd
            split at hv
            · rename_i hi
              rw [if_pos (by rw [← hl]; exact hi)] at hd
              exact hr i v d hv hd
            · rename_i hi
              simp only [List.length_map] at hi hv
              rw [if_neg (by omega), ← hl'] at hd
              exact q2 _ v d (by simpa using hv) hd) h
          exact go hfe g1 g2 h
      | _ => exact h.elim
    | builtin b =>
      obtain ⟨ds, h, hl, hr⟩ := evLW_ok hG hs h
      have vals : args.map a.eval = (args.toList.map a.eval).toArray := by apply Array.ext'; simp
      have bfin : ∀ {v w'}, (∀ consts, (builtin b argTypes ty consts (args.map a.eval)).run P w = .ok (.value v) w') → Left w0 S a.tmps k v w' → (Oper.mk dst (.call ⟨.builtin b, args, argTypes⟩) ty pos after guard).wpIn (fw r) N P a w K Q := by
        intro v w' hrun hl
        exact fin (by simp only [execOp, resolve, Sem.run_bind, Sem.run_pure, Result.andThen_ok, invoke, hrun]) hl
      have tys : argTypes = argTypes.toList.toArray := by simp
      unfold builtinW at h
      split at h
      · -- len
        rename_i t d e1 _
        obtain ⟨x, hx⟩ : ∃ x, args.toList.map a.eval = [x] := by
          rcases hq : args.toList.map a.eval with _ | ⟨x, _ | ⟨y, r⟩⟩
          · rw [hq] at hl; simp at hl
          · exact ⟨x, rfl⟩
          · rw [hq] at hl; simp at hl
        obtain ⟨v, d', hrun, hk, hr'⟩ := lnW_ok (P := P) (T := t) (ty := ty) (k := fun d => k d S) (hr 0 x d (by rw [hx]; rfl) rfl) h
        refine bfin (fun consts => ?_) (left_same hs hk (.ro hr'))
        rw [vals, hx, tys, e1]
        simp only [builtin, Sem.run_bind, hrun]; rfl
      · -- append
        rename_i t u s d e1 _
        obtain ⟨x, y, hx⟩ : ∃ x y, args.toList.map a.eval = [x, y] := by
          rcases hq : args.toList.map a.eval with _ | ⟨x, _ | ⟨y, _ | ⟨z, r⟩⟩⟩
          · rw [hq] at hl; simp at hl
          · rw [hq] at hl; simp at hl
          · exact ⟨x, y, rfl⟩
          · rw [hq] at hl; simp at hl
        simp only [tyW] at h
        unfold slTyW at h
        split at h
        · rename_i e ht
          have hu : (∃ w, P.underlying u = some w ∧ ∀ k, w ≠ .int k) ∧ szW P e fun sz => byW P e fun by_ => zeroW P e fun z => z.length = sz ∧ srcW S sz d fun m es => appW S sz by_ s m es k := by
            unfold nintW at h
            split at h
            · rename_i e2 h2; exact ⟨⟨_, tyOf_slice h2, by simp⟩, h⟩
            · rename_i h2; exact ⟨⟨_, tyOf_str h2, by simp⟩, h⟩
            · exact h.elim
          obtain ⟨⟨w1, hw1, hw2⟩, h⟩ := hu
          obtain ⟨ie, hie, h⟩ := szW_ok h
          obtain ⟨ib, hib, h⟩ := byW_ok h
          rw [hie] at hib; cases hib
          obtain ⟨iz, z, hiz, hz, _, hzl, h⟩ := zeroW_ok h
          rw [hie] at hiz; cases hiz
          obtain ⟨m, es, vs, h, src⟩ := srcW_ok (P := P) hs (hr 1 y d (by rw [hx]; rfl) rfl) h
          obtain ⟨v, w', hrun, hl⟩ := appW_ok (P := P) (ty := ty) hs (AppTy.mk (tyOf_slice ht) hie hz (by simpa using hzl) hw1 hw2) src (hr 0 x s (by rw [hx]; rfl) rfl) h
          refine bfin (fun consts => ?_) hl
          rw [vals, hx, tys, e1]
          simp only [builtin, Sem.run_bind, hrun]; rfl
        · exact h.elim
      · -- copy
        rename_i t u s d e1 _
        obtain ⟨x, y, hx⟩ : ∃ x y, args.toList.map a.eval = [x, y] := by
          rcases hq : args.toList.map a.eval with _ | ⟨x, _ | ⟨y, _ | ⟨z, r⟩⟩⟩
          · rw [hq] at hl; simp at hl
          · rw [hq] at hl; simp at hl
          · exact ⟨x, y, rfl⟩
          · rw [hq] at hl; simp at hl
        simp only [tyW] at h
        unfold slTyW at h
        split at h
        · rename_i e ht
          obtain ⟨ie, hie, h⟩ := szW_ok h
          obtain ⟨m, es, vs, h, src⟩ := srcW_ok (P := P) hs (hr 1 y d (by rw [hx]; rfl) rfl) h
          obtain ⟨v, w', hrun, hl⟩ := cpyW_ok (P := P) (U := u) (ty := ty) hs (tyOf_slice ht) hie (hr 0 x s (by rw [hx]; rfl) rfl) src h
          refine bfin (fun consts => ?_) hl
          rw [vals, hx, tys, e1]
          simp only [builtin, Sem.run_bind, hrun]; rfl
        · exact h.elim
      · -- max
        rename_i d ds' _
        obtain ⟨x, r, hx⟩ : ∃ x r, args.toList.map a.eval = x :: r := by
          rcases hq : args.toList.map a.eval with _ | ⟨x, r⟩
          · rw [hq] at hl; simp at hl
          · exact ⟨x, r, rfl⟩
        rw [hx] at hl hr
        obtain ⟨v, d', hrun, hk, hr'⟩ := mxW_ok (P := P) (by simpa using hl) (hr 0 x d rfl rfl) (fun i v d hv hd => hr (i + 1) v d (by simpa using hv) (by simpa using hd)) h
        refine bfin (fun consts => ?_) (left_same hs hk hr')
        rw [vals, hx]
        simp only [builtin, Builtin.max_, Sem.run_bind]
        simp only [if_true] at hrun
        rw [hrun]; rfl
      · -- min
        rename_i d ds' _
        obtain ⟨x, r, hx⟩ : ∃ x r, args.toList.map a.eval = x :: r := by
          rcases hq : args.toList.map a.eval with _ | ⟨x, r⟩
          · rw [hq] at hl; simp at hl
          · exact ⟨x, r, rfl⟩
        rw [hx] at hl hr
        obtain ⟨v, d', hrun, hk, hr'⟩ := mxW_ok (P := P) (by simpa using hl) (hr 0 x d rfl rfl) (fun i v d hv hd => hr (i + 1) v d (by simpa using hv) (by simpa using hd)) h
        refine bfin (fun consts => ?_) (left_same hs hk hr')
        rw [vals, hx]
        simp only [builtin, Builtin.min_, Sem.run_bind]
        simp only [Bool.false_eq_true, if_false] at hrun
        rw [hrun]; rfl
      · exact h.elim
    | invoke _ _ => exact h.elim
  | _ => exact h.elim
end
#print axioms opW_ok
end Go.Abs
