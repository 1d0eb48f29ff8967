/-
  AN ABSTRACT WALK, sixteenth text: regions; code without loops.
-/
import Derived.Still
import Derived.Test.YtaakjjhifhjbfaaDoorAbs15
import Derived.Orders
section
namespace Go.Abs
open Go.RowKit (Below)

/-! ### A region -/
def putW (dst : Option Tmp) (d : D) (S : St) (k : St → Prop) : Prop :=
  match dst with
  | none => k S
  | some s => s < S.n ∧ k ⟨S.n, S.nx, (s, d) :: S.env, S.own⟩

def dstW (ops : List Oper) (j : Nat) (k : Nat → Prop) : Prop := match ops[j]? with | some ⟨some s, _, _, _, _, _⟩ => k s | _ => False

/-- An operation's guard: A where it is done, B where it is passed by. -/
def grdW (ops : List Oper) (g : Option (Nat × Bool)) (S : St) (A B : St → Prop) : Prop :=
  match g with
  | none => A S
  | some (j, want) => dstW ops j fun s => lkW s S.env fun d => match d with
    | .bool c => (c = want → A ⟨S.n, S.nx, (s, .bool want) :: S.env, S.own⟩) ∧ (¬ c = want → B ⟨S.n, S.nx, (s, .bool !want) :: S.env, S.own⟩)
    | .tup [] => B S
    | _ => False

def opsW (G : Glob) (P : Program) (ops : List Oper) : List Oper → St → (St → Prop) → Prop
  | [], S, k => k S
  | o :: rest, S, k => grdW ops o.guard S (fun S => opW G P o.op S fun d S => putW o.dst d S fun S => opsW G P ops rest S k) fun S => putW o.dst (.tup []) S fun S => opsW G P ops rest S k

theorem putW_ok {w0 : Bas} {w : World} {φ : Loc} {S : St} {tmps : Array Value} {dst : Option Tmp} {v : Value} {d : D} {k : St → Prop} (hs : SatC w0 φ S tmps w) (hr : Rep φ w (FSx φ S.own w) v d) (h : putW dst d S k) :
    ∃ S', k S' ∧ S'.n = S.n ∧ ∀ df, SatC w0 φ S' (Act.put ⟨tmps, df⟩ dst v).tmps w := by
  cases dst with
  | none => exact ⟨S, h, rfl, fun _ => hs⟩
  | some s => exact ⟨_, h.2, rfl, fun _ => hs.put h.1 hr⟩

theorem put_defers (a : Act) (dst : Option Tmp) (v : Value) : (a.put dst v).defers = a.defers := by cases dst <;> rfl

theorem dstW_ok {ops : List Oper} {j : Nat} {k : Nat → Prop} (h : dstW ops j k) : ∃ s, (ops[j]?).bind (·.dst) = some s ∧ k s := by
  unfold dstW at h
  split at h
  · rename_i s _ _ _ _ _ e; exact ⟨s, by rw [e]; rfl, h⟩
  · exact h.elim

def vbool (v : Value) : Option Bool := match v with | .bool b => some b | _ => none
theorem yielded_at {ops : List Oper} {tmps : Array Value} {j s : Nat} {v : Value} (h : (ops[j]?).bind (·.dst) = some s) (hv : tmps[s]? = some v) : yielded ops.toArray tmps j = vbool v := by
  unfold yielded vbool
  rw [List.getElem?_toArray, h]
  simp only [Option.bind_some, hv]
  split
  · rename_i h1; cases h1; rfl
  · rename_i h1; split
    · exact absurd rfl (h1 _)
    · rfl

/-- What a guard's two arms mean. -/
theorem grdW_ok {w0 : Bas} {w : World} {φ : Loc} {S : St} {tmps : Array Value} {ops : List Oper} {o : Oper} {A B : St → Prop} (hs : SatC w0 φ S tmps w) (h : grdW ops o.guard S A B) :
    (Region.wanted o (yielded ops.toArray tmps) = true ∧ ∃ S', A S' ∧ S'.n = S.n ∧ SatC w0 φ S' tmps w) ∨ (Region.wanted o (yielded ops.toArray tmps) = false ∧ ∃ S', B S' ∧ S'.n = S.n ∧ SatC w0 φ S' tmps w) := by
  unfold grdW at h
  split at h
  · rename_i e
    exact .inl ⟨by simp [Region.wanted, e], S, h, rfl, hs⟩
  · rename_i j want e
    obtain ⟨s, hj, h⟩ := dstW_ok h
    obtain ⟨d, hd, h⟩ := lkW_ok h
    obtain ⟨v, hv, hr⟩ := hs.env s d hd
    have hy := yielded_at hj hv
    have set : ∀ b, v = .bool b → SatC w0 φ ⟨S.n, S.nx, (s, .bool b) :: S.env, S.own⟩ tmps w := fun b hb => by
      refine ⟨hs.below, hs.size, hs.own, hs.inj, fun t e he => ?_, hs.base, hs.pin⟩
      simp only [lk] at he
      split at he
      · rename_i e1; cases he; subst e1; exact ⟨v, hv, hb ▸ .ro .bool⟩
      · exact hs.env t e he
    split at h
    · rename_i c
      have e2 := hr.bool_inv
      subst e2
      by_cases hc : c = want
      · refine .inl ⟨by simp [Region.wanted, e, hy, hc, vbool], _, h.1 hc, rfl, set _ (by rw [hc])⟩
      · refine .inr ⟨by simp [Region.wanted, e, hy, hc, vbool], _, h.2 hc, rfl, set _ (by cases c <;> cases want <;> simp_all)⟩
    · refine .inr ⟨?_, S, h, rfl, hs⟩
      have : v = .tuple #[] := by
        cases hr with
        | ro hr => cases hr with
          | tup a _ => exact congrArg _ (Array.eq_empty_of_size_eq_zero (by simpa using a))
      rw [this] at hy
      simp [Region.wanted, e, hy, vbool]
    · exact h.elim

section
variable {P : Program} {G : Glob} {w0 : Bas} {Q : Exit → Act → World → Prop} {r : Option Nat} {N : Nat}

theorem opsW_ok (hG : GOk G w0) {ops : List Oper} : ∀ {l : List Oper} {S : St} {a : Act} {w : World} {φ : Loc} {k : St → Prop}, SatC w0 φ S a.tmps w → opsW G P ops l S k →
    (∀ S' a' w' φ', k S' → SatC w0 φ' S' a'.tmps w' → S'.n = S.n → a'.defers = a.defers → Q .normal a' w') → wpListIn (fw r) N P ops.toArray Q l a w
  | [], S, a, w, φ, k, hs, h, hn => hn _ _ _ _ h hs rfl rfl
  | o :: rest, S, a, w, φ, k, hs, h, hn => by
    unfold wpListIn
    rcases grdW_ok hs h with ⟨hw, S1, h1, n1, hs1⟩ | ⟨hw, S1, h1, n1, hs1⟩
    · rw [if_pos hw]
      refine opW_ok hG hs1 o h1 ?_
      rintro v w' ⟨φ', d, S2, h2, hs2, hr, n2⟩
      obtain ⟨S3, h3, n3, hs3⟩ := putW_ok hs2 hr h2
      exact opsW_ok hG (a := a.put o.dst v) (hs3 a.defers) h3 fun S' a' w' φ' hk hs' hnn hd => hn S' a' w' φ' hk hs' (by rw [hnn, n3, n2, n1]) (by rw [hd, put_defers])
    · rw [if_neg (by rw [hw]; simp)]
      obtain ⟨S3, h3, n3, hs3⟩ := putW_ok hs1 (v := undef) (.ro (.tup (ds := []) rfl fun i v d hv => by simp at hv)) h1
      refine ⟨fun _ _ => trivial, ?_⟩
      exact opsW_ok hG (a := a.put o.dst undef) (hs3 a.defers) h3 fun S' a' w' φ' hk hs' hnn hd => hn S' a' w' φ' hk hs' (by rw [hnn, n3, n1]) (by rw [hd, put_defers])

end

/-! ### Operations that turn nothing -/
section
variable {P : Program} {G : Glob} {w0 : Bas} {w : World} {S : St} {a : Act} {k : D → St → Prop} {φ : Loc}

def quiet : Op → Bool
  | .move _ | .assign _ | .pick .. | .nilCheck _ | .binOp .. | .unOp .. | .extract .. | .load .. | .indexAddr .. | .fieldAddr .. | .field .. | .index .. | .slice .. | .sliceToArrayPointer .. => true
  | .call { callee := .builtin .len, .. } => true
  | _ => false

set_option maxHeartbeats 1000000 in
theorem opQ_ok (hG : GOk G w0) (hs : SatC w0 φ S a.tmps w) (o : Oper) (hq : quiet o.op = true) (h : opW G P o.op S k) : ∃ v d, (execOp a.eval o).run P w = .ok (.value v) w ∧ k d S ∧ Rep φ w (FSx φ S.own w) v d := by
  obtain ⟨dst, op, ty, pos, after, guard⟩ := o
  have fin : ∀ {v d}, (execOp a.eval ⟨dst, op, ty, pos, after, guard⟩).run P w = .ok (.value v) w → (k d S ∧ Rep φ w (FSx φ S.own w) v d) → ∃ v d, (execOp a.eval ⟨dst, op, ty, pos, after, guard⟩).run P w = .ok (.value v) w ∧ k d S ∧ Rep φ w (FSx φ S.own w) v d := fun hr hl => ⟨_, _, hr, hl⟩
  cases op with
  | move x =>
    obtain ⟨d, hk, hd⟩ := evW_ok hG hs h
    exact fin rfl (And.intro hk hd)
  | assign x =>
    obtain ⟨d, hk, hd⟩ := evW_ok hG hs h
    exact fin rfl (And.intro hk hd)
  | pick c x y =>
    obtain ⟨d, h, hd⟩ := evW_ok hG hs h
    cases d with
    | bool t =>
      have e := hd.bool_inv
      cases t with
      | true =>
        obtain ⟨d, hk, hd⟩ := evW_ok hG hs h
        exact fin (by simp [execOp, e, asBool]) (And.intro hk hd)
      | false =>
        obtain ⟨d, hk, hd⟩ := evW_ok hG hs h
        exact fin (by simp [execOp, e, asBool]) (And.intro hk hd)
    | _ => exact h.elim
  | nilCheck x =>
    obtain ⟨d, h, hd⟩ := evW_ok hG hs h
    obtain ⟨hk, ⟨p, e⟩ | ⟨f, c, e⟩⟩ := ncW_ok hd h
    · exact fin (by simp only [execOp, e]; rfl) (And.intro hk hd)
    · exact fin (by simp only [execOp, e]; rfl) (And.intro hk hd)
  | binOp op t x y yt =>
    obtain ⟨dx, h, hx⟩ := evW_ok hG hs h
    obtain ⟨dy, h, hy⟩ := evW_ok hG hs h
    obtain ⟨v, d, hrun, hk, hr⟩ := bnW_ok (P := P) hx hy h x y
    exact fin (by simp only [execOp, Sem.run_bind] at hrun ⊢; rw [hrun]; rfl) (And.intro hk (.ro hr))
  | unOp op t x =>
    obtain ⟨dx, h, hx⟩ := evW_ok hG hs h
    obtain ⟨v, d, hrun, hk, hr⟩ := unW_ok (P := P) (w := w) hx h
    exact fin (by simp only [execOp, Sem.run_bind, hrun]; rfl) (And.intro hk (.ro hr))
  | extract x i =>
    obtain ⟨dx, h, hx⟩ := evW_ok hG hs h
    obtain ⟨v, d, hrun, hk, hr⟩ := exW_ok (P := P) (w := w) hx h
    exact fin (by simp only [execOp, Sem.run_bind, hrun]; rfl) (And.intro hk (.ro hr))
  | load t p =>
    obtain ⟨dx, h, hx⟩ := evW_ok hG hs h
    simp only [tyW] at h
    obtain ⟨i, hi, h⟩ := szW_ok h
    unfold opW.agTyW at h
    split at h
    · rename_i ag hag
      obtain ⟨v, d, hrun, hk, hr⟩ := loadW_ok (P := P) hs hx hag hi h
      exact fin (by simp only [execOp, Sem.run_bind, hrun]; rfl) (And.intro hk hr)
    · exact h.elim
  | indexAddr t x i =>
    obtain ⟨dx, h, hx⟩ := evW_ok hG hs h
    obtain ⟨di, h, hi⟩ := evW_ok hG hs h
    simp only [tyW] at h
    unfold opW.elTyW at h
    split at h
    · rename_i e he
      obtain ⟨inf, hinf, h⟩ := szW_ok h
      obtain ⟨v, d, hrun, hk, hr⟩ := ixW_ok (P := P) hs hinf (.inr he) hx hi h
      exact fin (by simp only [execOp, Sem.run_bind, hrun]; rfl) (And.intro hk hr)
    · rename_i n e he
      obtain ⟨inf, hinf, h⟩ := szW_ok h
      obtain ⟨v, d, hrun, hk, hr⟩ := ixW_ok (P := P) hs hinf (.inl ⟨_, he⟩) hx hi h
      exact fin (by simp only [execOp, Sem.run_bind, hrun]; rfl) (And.intro hk hr)
    · exact h.elim
  | fieldAddr t x f =>
    obtain ⟨dx, h, hx⟩ := evW_ok hG hs h
    obtain ⟨v, d, hrun, hk, hr⟩ := faW_ok (P := P) hs hx h
    exact fin (by simp only [execOp, Sem.run_bind, hrun]; rfl) (And.intro hk hr)
  | field t x f =>
    obtain ⟨dx, h, hx⟩ := evW_ok hG hs h
    have h' : fldW P t f fun o ft => szW P ft fun n => ∃ ag, isAg (tyOf P ft) = some ag ∧ fvW dx ag n o fun d => k d S := by
      obtain ⟨fa, fx, q1, q2, h⟩ := fldW_ok h
      have e : fldW P t f = fun kk => kk fx.offset fx.type := by
        funext kk
        have ht : tyOf P t = .struct (fa.toList.map fun f => (f.offset, f.type)) := by simp [tyOf, q1]
        simp [fldW, ht, q2]
      rw [e]
      obtain ⟨i, hi, h⟩ := szW_ok h
      simp only [tyW] at h
      unfold opW.agTyW at h
      split at h
      · rename_i ag hag
        simp only [szW, hi]
        exact ⟨ag, hag, h⟩
      · exact h.elim
    obtain ⟨v, d, hrun, hk, hr⟩ := fieldW_ok (P := P) hx h'
    exact fin (by simp only [execOp, Sem.run_bind, hrun]; rfl) (And.intro hk hr)
  | index t x i =>
    obtain ⟨dx, h, hx⟩ := evW_ok hG hs h
    obtain ⟨di, h, hi⟩ := evW_ok hG hs h
    simp only [tyW] at h
    unfold opW.inW at h
    split at h
    · rename_i ht
      cases di with
      | int kk n =>
        cases dx with
        | str s =>
          have h : 0 ≤ n ∧ ∃ h : n.toNat < s.length, k (.int .u8 (s[n.toNat]'h).toNat) S := by rw [ht] at h; exact h
          obtain ⟨v, d, hrun, hk, hr⟩ := inx_str_ok (P := P) (k := fun d => k d S) ht hx hi rfl h
          exact fin (by simp only [execOp, Sem.run_bind, hrun]; rfl) (And.intro hk hr)
        | _ => rw [ht] at h; exact h.elim
      | _ => exact h.elim
    · rename_i len e ht
      obtain ⟨inf, hinf, h⟩ := szW_ok h
      cases di with
      | int kk n =>
        have h : 0 ≤ n ∧ n < len ∧ ∃ a, isAg (tyOf P e) = some a ∧ fvW dx a inf.size (n.toNat * inf.size) fun d => k d S := by
          rw [ht] at h; cases dx <;> exact h
        obtain ⟨v, d, hrun, hk, hr⟩ := inx_arr_ok (P := P) ht hinf hx hi rfl h
        exact fin (by simp only [execOp, Sem.run_bind, hrun]; rfl) (And.intro hk hr)
      | _ => exact h.elim
    · exact h.elim
  | slice t x lo hi mx =>
    obtain ⟨dx, h, hx⟩ := evW_ok hG hs h
    obtain ⟨l, h, hl⟩ := boD_ok (F := fun _ => True) hG hs h
    obtain ⟨hh, h, hhi⟩ := boD_ok (F := fun _ => True) hG hs h
    obtain ⟨m, h, hm⟩ := boD_ok (F := fun _ => True) hG hs h
    simp only [tyW] at h
    unfold opW.seTyW at h
    have : ∃ e sz, ((∃ i, P.info? e = some i ∧ i.size = sz) ∧ (tyOf P t = .slice e ∨ ∃ n, tyOf P t = .arr n e) ∨ tyOf P t = .str) ∧ slcW (S := S) (tyOf P t) sz dx l hh m fun d => k d S := by
      split at h
      · rename_i ht
        exact ⟨0, 1, .inr ht, h⟩
      · rename_i e ht
        obtain ⟨i, hi, h⟩ := szW_ok h
        exact ⟨e, _, .inl ⟨⟨i, hi, rfl⟩, .inl ht⟩, h⟩
      · rename_i n e ht
        obtain ⟨i, hi, h⟩ := szW_ok h
        exact ⟨e, _, .inl ⟨⟨i, hi, rfl⟩, .inr ⟨n, ht⟩⟩, h⟩
      · exact h.elim
    obtain ⟨e, sz, hi, h⟩ := this
    obtain ⟨v, d, hrun, hk, hr⟩ := slcW_ok (P := P) hs hi hx hl hhi hm h
    exact fin (by simp only [execOp, Sem.run_bind, hrun]; rfl) (And.intro hk hr)
  | sliceToArrayPointer t x =>
    obtain ⟨dx, h, hx⟩ := evW_ok hG hs h
    simp only [tyW] at h
    unfold arTyW at h
    split at h
    · rename_i n e ht
      obtain ⟨v, d, hrun, hk, hr⟩ := s2aW_ok (P := P) ht hx h
      exact fin (by simp only [execOp, Sem.run_bind, hrun]; rfl) (And.intro hk hr)
    · exact h.elim
  | call c =>
    obtain ⟨callee, args, argTypes⟩ := c
    cases callee with
    | builtin b =>
      cases b <;> simp only [quiet, reduceCtorEq] at hq
      obtain ⟨ds, h, hl, hr⟩ := evLW_ok hG hs h
      unfold builtinW at h
      split at h
      · rename_i t d _ e1
        obtain ⟨x, hx⟩ : ∃ x, args.toList.map a.eval = [x] := by
          rcases hq : args.toList.map a.eval with _ | ⟨x, _ | ⟨y, r⟩⟩
          · rw [hq] at hl; simp at hl
          · exact ⟨x, rfl⟩
          · rw [hq] at hl; simp at hl
        have vals : args.map a.eval = (args.toList.map a.eval).toArray := by apply Array.ext'; simp
        have tys : argTypes = argTypes.toList.toArray := by simp
        obtain ⟨v, d', hrun, hk, hr'⟩ := lnW_ok (P := P) (T := t) (ty := ty) (k := fun d => k d S) (hr 0 x d (by rw [hx]; rfl) rfl) h
        refine fin ?_ (And.intro hk (.ro hr'))
        simp only [execOp, resolve, Sem.run_bind, Sem.run_pure, Result.andThen_ok, invoke]
        rw [vals, hx, tys, e1]
        simp only [builtin, Sem.run_bind, hrun]; rfl
      all_goals first | exact h.elim | (rename_i h1; exact absurd h1 (by simp)) | (rename_i h1 _; exact absurd h1 (by simp))
    | _ => simp [quiet] at hq
  | _ => simp [quiet] at hq

theorem opsQ_ok (hG : GOk G w0) {ops : List Oper} {Q : Act → Prop} : ∀ {l : List Oper} {S : St} {a : Act} {k : St → Prop}, SatC w0 φ S a.tmps w → l.all (fun o => quiet o.op) = true → opsW G P ops l S k →
    (∀ S' a', k S' → SatC w0 φ S' a'.tmps w → S'.n = S.n → a'.defers = a.defers → Q a') → wpStill P ops.toArray w Q l a
  | [], S, a, k, hs, _, h, hn => hn _ _ h hs rfl rfl
  | o :: rest, S, a, k, hs, hq, h, hn => by
    simp only [List.all_cons, Bool.and_eq_true] at hq
    unfold wpStill
    rcases grdW_ok hs h with ⟨hw, S1, h1, n1, hs1⟩ | ⟨hw, S1, h1, n1, hs1⟩
    · rw [if_pos hw]
      obtain ⟨v, d, hrun, h2, hr⟩ := opQ_ok hG hs1 o hq.1 h1
      obtain ⟨S3, h3, n3, hs3⟩ := putW_ok hs1 hr h2
      unfold Oper.still
      rw [hrun, Oper.stillUpon_value]
      exact opsQ_ok hG (a := a.put o.dst v) (hs3 a.defers) hq.2 h3 fun S' a' hk hs' hnn hd => hn S' a' hk hs' (by rw [hnn, n3, n1]) (by rw [hd, put_defers])
    · rw [if_neg (by rw [hw]; simp)]
      obtain ⟨S3, h3, n3, hs3⟩ := putW_ok hs1 (v := undef) (.ro (.tup (ds := []) rfl fun i v d hv => by simp at hv)) h1
      exact opsQ_ok hG (a := a.put o.dst undef) (hs3 a.defers) hq.2 h3 fun S' a' hk hs' hnn hd => hn S' a' hk hs' (by rw [hnn, n3, n1]) (by rw [hd, put_defers])
end

#print axioms opsQ_ok
#print axioms opsW_ok
end Go.Abs
end
section
namespace Go.Abs
open Go.RowKit (Below)
/-! ### What is only read: a string's bytes in new memory -/
section
variable {P : Program} {w0 : Bas} {w : World} {φ : Loc} {S : St} {tmps : Array Value}
theorem new_rof (hs : SatC w0 φ S tmps w) {arr : Array Value} {T : TypeId} {fz : Nat × Nat} {cs : List D} {n c sz : Nat} (hl : cs.length = n * sz) (ha : cs.length ≤ arr.size) (hc : n ≤ c) (hm : c ≤ maxLen) (hr : ∀ (i : Nat) (v : Value) (d : D), arr[i]? = some v → cs[i]? = some d → RepR w (FSx φ S.own w) v d ∧ v.oneCell' = true) :
    SatC w0 φ S tmps (w.alloc (.cells arr T fz)) ∧ RepR (w.alloc (.cells arr T fz)) (FSx φ S.own (w.alloc (.cells arr T fz))) (.slice (some ⟨w.heap.size, 0, none⟩) n c) (.sl sz n cs) := by
  have hb : Below w.heap.size w (w.alloc (.cells arr T fz)) := (Below.refl _ _).alloc (Nat.le_refl _) _
  have hblk : (w.alloc (.cells arr T fz)).heap[w.heap.size]? = some (.cells arr T fz) := heap_alloc_new w _
  refine ⟨hs.ext hb, .sl (fun j => arr.getD j undef) rfl ⟨by simp, fun id c hc hb => absurd ((hs.own id c hc).1.lt hb) (Nat.lt_irrefl _), hs.newBase⟩ hc hm hl (fun j hj => ?_) (fun j d hd => ?_)⟩
  · have h1 : arr[j]? = some (arr[j]'(by omega)) := by simp
    obtain ⟨d, hd⟩ : ∃ d, cs[j]? = some d := ⟨cs[j]'(by omega), by simp⟩
    simp only [World.cell?, hblk, Nat.zero_add, Option.isSome_none, Bool.false_eq_true, if_false, h1, Array.getD_eq_getD_getElem?, Option.getD_some, true_and]
    exact (hr j _ d h1 hd).2
  · have hj : j < arr.size := by have := (List.getElem?_eq_some_iff.1 hd).1; omega
    have h1 : arr[j]? = some arr[j] := by simp [hj]
    rw [Array.getD_eq_getD_getElem?, h1, Option.getD_some]
    exact (hr j _ d h1 hd).1.mono (fun k hk => hb.block k hk.1) fun k hk => FSx.ext hb hk
theorem cvR_ok (hs : SatC w0 φ S tmps w) {src dst e : TypeId} (h1 : tyOf P src = .str) (h2 : tyOf P dst = .slice e) (h3 : tyOf P e = .int .u8) {xv : Value} {s : List UInt8} (hx : Rep φ w (FSx φ S.own w) xv (.str s)) (hlm : s.length ≤ maxLen) {k : D → St → Prop} (hk : k (.sl 1 s.length (s.map bD)) S) :
    ∃ v w', (convert src dst xv).run P w = .ok v w' ∧ Left w0 S tmps k v w' := by
  obtain ⟨b, rfl, hb, hl⟩ := hx.str_inv
  have hrun := Lib.run_convert_string_bytes (P := P) w src dst e b (tyOf_str h1) (tyOf_slice h2) (tyOf_int h3)
  have hbsz : b.size = s.length := by rw [ba_size, hb]
  have hge : b.size ≤ grownCap w b.size 0 e := grownCap_ge w _ _ _
  have hle : grownCap w b.size 0 e ≤ maxLen := grownCap_le_maxLen w _ _ _ (by rw [hbsz]; exact hlm)
  have hsize : (Lib.bytesCells w e b).size = grownCap w b.size 0 e := by
    have e1 : b.data.size = b.size := rfl
    simp only [Lib.bytesCells, Array.size_append, Array.size_map, Array.size_replicate, e1]; omega
  have hworld : Lib.bytesWorld w e b = w.drew.alloc (.cells (Lib.bytesCells w e b) e ((Lib.bytesCells w e b).size, (Lib.bytesCells w e b).size + 1)) := by
    unfold Lib.bytesWorld World.freeze
    simp only [Nat.one_ne_zero, if_false]
    unfold World.alloc World.drew
    simp only
    congr 1
    apply Array.ext_getElem?
    intro j
    rw [Array.getElem?_modify, Array.getElem?_push, Array.getElem?_push]
    by_cases hj : w.heap.size = j
    · subst hj; simp
    · rw [if_neg hj, if_neg (fun e => hj e.symm), if_neg (fun e => hj e.symm)]
  obtain ⟨hs', hr'⟩ := new_rof hs.drew (cs := s.map bD) (arr := Lib.bytesCells w e b) (T := e) (fz := ((Lib.bytesCells w e b).size, (Lib.bytesCells w e b).size + 1)) (n := b.size) (c := grownCap w b.size 0 e) (sz := 1)
    (by rw [List.length_map, hbsz, Nat.mul_one]) (by rw [hsize, List.length_map, ← hbsz]; exact hge) hge hle (fun j v d hv hd => by
      simp only [List.getElem?_map] at hd
      cases hj : s[j]? with
      | none => simp [hj] at hd
      | some c =>
        have hjl : j < b.data.size := by have := (List.getElem?_eq_some_iff.1 hj).1; rw [← hb] at this; simpa using this
        have hc : b.data[j]? = some c := by rw [← Array.getElem?_toList, hb]; exact hj
        simp only [hj, Option.map_some, Option.some.injEq] at hd
        subst hd
        rw [Lib.bytesCells, Array.getElem?_append, if_pos (by simpa using hjl), Array.getElem?_map, hc] at hv
        simp only [Option.map_some, Option.some.injEq] at hv
        subst hv
        have := c.toNat_lt
        exact ⟨.int (by show (0 : Int) ≤ _; omega) (by show _ ≤ (255 : Int); omega), rfl⟩)
  rw [hworld] at hrun
  rw [hbsz] at hr'
  refine ⟨_, _, hrun, φ, _, S, hk, hs', .ro ?_, rfl⟩
  rw [hbsz]
  exact hr'
end
def cvRW (ts td : TY) (A : TypeId → Prop) (B : Prop) : Prop := match ts, td with | .str, .slice e => A e | _, _ => B
def ubW (te : TY) (A : Prop) : Prop := match te with | .int .u8 => A | _ => False
def sdW (d : D) (k : List UInt8 → Prop) : Prop := match d with | .str s => k s | _ => False
/-- An operation beside which nothing of the call's own is turned: a string's bytes are then only read. -/
def opR (G : Glob) (P : Program) (op : Op) (S : St) (k : D → St → Prop) : Prop :=
  match op with
  | .convert s d x => tyW P s fun ts => tyW P d fun td => cvRW ts td (fun e => tyW P e fun te => ubW te (evW G S x fun a => sdW a fun b => b.length ≤ maxLen ∧ k (.sl 1 b.length (b.map bD)) S)) (opW G P (.convert s d x) S k)
  | op => opW G P op S k
section
variable {P : Program} {G : Glob} {w0 : Bas} {w : World} {S : St} {a : Act} {k : D → St → Prop} {φ : Loc} {Q : Exit → Act → World → Prop} {K : Act → World → Prop} {r : Option Nat} {N : Nat}
theorem opR_ok (hG : GOk G w0) (hs : SatC w0 φ S a.tmps w) (o : Oper) (h : opR G P o.op S k) (hn : Next w0 S a o k K) : o.wpIn (fw r) N P a w K Q := by
  obtain ⟨dst, op, ty, pos, after, guard⟩ := o
  cases op with
  | convert s d x =>
    have h : cvRW (tyOf P s) (tyOf P d) (fun e => ubW (tyOf P e) (evW G S x fun a => sdW a fun b => b.length ≤ maxLen ∧ k (.sl 1 b.length (b.map bD)) S)) (opW G P (.convert s d x) S k) := h
    unfold cvRW at h
    split at h
    · rename_i e h1 h2
      unfold ubW at h
      split at h
      · rename_i h3
        obtain ⟨dx, h, hx⟩ := evW_ok hG hs h
        unfold sdW at h
        split at h
        · rename_i b
          obtain ⟨v, w', hrun, hl⟩ := cvR_ok hs h1 h2 h3 hx h.1 h.2
          exact wp_val (by rintro c hc; cases hc) (by simp only [execOp, Sem.run_bind, hrun]; rfl) (hn _ _ hl)
        · exact h.elim
      · exact h.elim
    · exact opW_ok hG hs ⟨dst, .convert s d x, ty, pos, after, guard⟩ h hn
  | _ => exact opW_ok hG hs _ h hn
end

/-- Operations that turn no own block (but may make memory that is only read). -/
def stb : Op → Bool
  | .move _ | .assign _ | .pick .. | .nilCheck _ | .binOp .. | .unOp .. | .convert .. | .extract .. | .load .. | .indexAddr .. | .fieldAddr .. | .field .. | .index .. | .build .. | .buildSlice .. | .slice .. | .sliceToArrayPointer .. | .makeFunc .. => true
  | .call { callee := .value _, .. } => true
  | .call { callee := .builtin .len, .. } | .call { callee := .builtin .max, .. } | .call { callee := .builtin .min, .. } => true
  | _ => false
def rdO (x : Operand) : Option Nat := match x with | .tmp t => some t | _ => none
def rdsO (o : Op) : List Nat := o.operands.toList.filterMap rdO
/-- What these slots hold, and no more. -/
def rsW : List Nat → List (Nat × D) → (List (Nat × D) → Prop) → Prop
  | [], _, k => k []
  | t :: r, E, k => lkW t E fun d => rsW r E fun e => k ((t, d) :: e)
def TagD (_ : D → Prop) : Type := Unit
def tgd (K : D → Prop) : TagD K := ()
/-- Some data of which A holds; behind it K. -/
structure exD (A K : D → Prop) (u : TagD K) : Prop where
  get : ∃ d, A d ∧ K d
def drwW (G : Glob) (P : Program) (ops : List Oper) (n nx : Nat) (own : List (Nat × List D)) : List Oper → List (Nat × D) → (St → Prop) → Prop
  | [], E, k => k ⟨n, nx, E, own⟩
  | o :: rest, E, k => match stb o.op with
    | false => opsW G P ops (o :: rest) ⟨n, nx, E, own⟩ k
    | true => grdW ops o.guard ⟨n, nx, E, own⟩
        (fun S => rsW (rdsO o.op) S.env fun r => exD (fun d => ∀ E' : List (Nat × D), opR G P o.op ⟨n, nx, r ++ E', own⟩ fun x T => x = d ∧ T = ⟨n, nx, r ++ E', own⟩) (fun d => putW o.dst d S fun S => drwW G P ops n nx own rest S.env k) (tgd _))
        (fun S => putW o.dst (.tup []) S fun S => drwW G P ops n nx own rest S.env k)

/-! ### What is asked of the edges -/
def dir (o : Oper) (j : Nat) : Bool := o.after.toList.any fun e => Region.binds .any e && e.on == j
def mkM (o : Oper) (acc : List Nat) : Nat := o.after.toList.foldl (fun m e => if Region.binds .any e = true then m ||| 2 ^ e.on ||| acc.getD e.on 0 else m) 0
def masks : List Oper → List Nat → List Nat
  | [], acc => acc
  | o :: r, acc => masks r (acc ++ [mkM o acc])
def preN (l : List Oper) : Nat := (l.takeWhile fun o => stb o.op).length
def grdSlot (l : List Oper) (o : Oper) : Option Nat := match o.guard with | none => none | some (j, _) => (l[j]?).bind (·.dst)
structure DrwB (l : List Oper) (m : Nat) : Prop where
  nodup : ((l.take m).filterMap (·.dst)).Nodup
  reads : ∀ x ∈ (l.take m).zipIdx, ∀ t ∈ rdsO x.1.op ++ (grdSlot l x.1).toList, ∀ y ∈ (l.take m).zipIdx, y.1.dst = some t → y.2 < x.2 ∧ dir x.1 y.2 = true
  tail : ∀ x ∈ (masks l []).zipIdx, m ≤ x.2 → x.1 &&& (2 ^ x.2 - 1) = 2 ^ x.2 - 1
  back : ∀ x ∈ l.zipIdx, ∀ e ∈ x.1.after.toList, Region.binds .any e = true → e.on < x.2
  grd : ∀ x ∈ l.take m, ∀ j b, x.guard = some (j, b) → j < m
def drwB (l : List Oper) (m : Nat) : Bool :=
  decide ((l.take m).filterMap (·.dst)).Nodup &&
  ((l.take m).zipIdx.all fun x => (rdsO x.1.op ++ (grdSlot l x.1).toList).all fun t => (l.take m).zipIdx.all fun y => y.1.dst != some t || (decide (y.2 < x.2) && dir x.1 y.2)) &&
  ((masks l []).zipIdx.all fun x => decide (x.2 < m) || x.1 &&& (2 ^ x.2 - 1) == 2 ^ x.2 - 1) &&
  (l.zipIdx.all fun x => x.1.after.toList.all fun e => !Region.binds .any e || decide (e.on < x.2)) &&
  ((l.take m).all fun x => match x.guard with | none => true | some (j, _) => decide (j < m))
theorem drwB_ok {l : List Oper} {m : Nat} (h : drwB l m = true) : DrwB l m := by
  simp only [drwB, Bool.and_eq_true, List.all_eq_true, Bool.or_eq_true, decide_eq_true_eq, bne_iff_ne, beq_iff_eq, Bool.not_eq_true'] at h
  obtain ⟨⟨⟨⟨h1, h2⟩, h3⟩, h4⟩, h5⟩ := h
  refine ⟨h1, fun x hx t ht y hy hd => (h2 x hx t ht y hy).resolve_left fun h => h hd, fun x hx hm => (h3 x hx).resolve_left (fun h => by omega), fun x hx e he hb => (h4 x hx e he).resolve_left (fun h => by rw [hb] at h; cases h), fun x hx j b hg => ?_⟩
  have := h5 x hx
  rw [hg] at this
  simpa using this
theorem mem_zip {α : Type} {l : List α} {i : Nat} {o : α} (h : l[i]? = some o) : (o, i) ∈ l.zipIdx := by
  rw [List.mem_zipIdx_iff_getElem?]; simpa using h

theorem masks_spec : ∀ (l : List Oper) (acc : List Nat), (masks l acc).length = acc.length + l.length ∧ (∀ j, j < acc.length → (masks l acc)[j]? = acc[j]?) ∧
    ∀ (i : Nat) (o : Oper), l[i]? = some o → (masks l acc)[acc.length + i]? = some (mkM o ((masks l acc).take (acc.length + i)))
  | [], acc => ⟨by simp [masks], fun j hj => rfl, fun i o h => by simp at h⟩
  | o :: r, acc => by
    obtain ⟨h1, h2, h3⟩ := masks_spec r (acc ++ [mkM o acc])
    rw [List.length_append, List.length_singleton] at h1 h2 h3
    have htake : (masks r (acc ++ [mkM o acc])).take acc.length = acc := by
      apply List.ext_getElem?
      intro j
      by_cases hj : j < acc.length
      · rw [List.getElem?_take_of_lt hj, h2 j (by omega), List.getElem?_append_left hj]
      · rw [List.getElem?_eq_none (by rw [List.length_take]; omega), List.getElem?_eq_none (by omega)]
    refine ⟨by rw [masks, h1, List.length_cons]; omega, fun j hj => by rw [masks, h2 j (by omega), List.getElem?_append_left hj], fun i p hp => ?_⟩
    cases i with
    | zero =>
      simp at hp; subst hp
      rw [masks, Nat.add_zero, h2 _ (by omega), htake]
      simp
    | succ i =>
      have := h3 i p (by simpa using hp)
      rw [masks, show acc.length + (i + 1) = acc.length + 1 + i by omega]
      exact this
theorem foldM {acc : List Nat} {x : Nat} : ∀ (es : List Edge) (m : Nat), (es.foldl (fun m e => if Region.binds .any e = true then m ||| 2 ^ e.on ||| acc.getD e.on 0 else m) m).testBit x = true →
    m.testBit x = true ∨ ∃ e ∈ es, Region.binds .any e = true ∧ (x = e.on ∨ (acc.getD e.on 0).testBit x = true)
  | [], m, h => .inl h
  | e :: r, m, h => by
    rw [List.foldl_cons] at h
    rcases foldM r _ h with h | ⟨e', he, hb, hx⟩
    · split at h
      · rename_i hb
        rw [Nat.testBit_or, Nat.testBit_or, Bool.or_eq_true, Bool.or_eq_true] at h
        rcases h with (h | h) | h
        · exact .inl h
        · rw [Nat.testBit_two_pow] at h
          exact .inr ⟨e, by simp, hb, .inl (by simpa using h : e.on = x).symm⟩
        · exact .inr ⟨e, by simp, hb, .inr h⟩
      · exact .inl h
    · exact .inr ⟨e', by simp [he], hb, hx⟩

def Lst (L : Array Bool) (j : Nat) : Prop := L.getD j false = true
def Closed (l : List Oper) (L : Array Bool) : Prop := ∀ (j : Nat) (o : Oper), l[j]? = some o → Lst L j → ∀ e ∈ o.after.toList, Region.binds .any e = true → Lst L e.on
theorem mask_ok {l : List Oper} {m : Nat} (hB : DrwB l m) {L : Array Bool} (hc : Closed l L) : ∀ (i : Nat) (o : Oper), l[i]? = some o → (∀ e ∈ o.after.toList, Region.binds .any e = true → Lst L e.on) → ∀ x, ((masks l []).getD i 0).testBit x = true → Lst L x := by
  intro i
  induction i using Nat.strongRecOn with
  | ind i ih =>
    intro o ho hp x hx
    have h3 := (masks_spec l []).2.2 i o ho
    simp only [List.length_nil, Nat.zero_add] at h3
    rw [List.getD_eq_getElem?_getD, h3, Option.getD_some] at hx
    rcases foldM _ _ hx with h | ⟨e, he, hb, h | h⟩
    · simp at h
    · rw [h]; exact hp e he hb
    · have hlt := hB.back (o, i) (mem_zip ho) e he hb
      simp only at hlt
      have hil : i < l.length := (List.getElem?_eq_some_iff.1 ho).1
      have hol : l[e.on]? = some l[e.on] := List.getElem?_eq_getElem (by omega)
      have e1 : ((masks l []).take i).getD e.on 0 = (masks l []).getD e.on 0 := by
        rw [List.getD_eq_getElem?_getD, List.getD_eq_getElem?_getD, List.getElem?_take_of_lt hlt]
      rw [e1] at h
      exact ih e.on hlt _ hol (hc e.on _ hol (hp e he hb)) x h
theorem tail_all {l : List Oper} {m : Nat} (hB : DrwB l m) {L : Array Bool} (hc : Closed l L) {i : Nat} {o : Oper} (ho : l[i]? = some o) (hm : m ≤ i) (hp : ∀ e ∈ o.after.toList, Region.binds .any e = true → Lst L e.on) : ∀ j, j < i → Lst L j := by
  intro j hj
  have hil : i < l.length := (List.getElem?_eq_some_iff.1 ho).1
  have hl := (masks_spec l []).1
  simp only [List.length_nil, Nat.zero_add] at hl
  have hg : (masks l [])[i]? = some ((masks l []).getD i 0) := by
    rw [List.getD_eq_getElem?_getD, List.getElem?_eq_getElem (by omega)]; rfl
  have h := hB.tail _ (mem_zip hg) hm
  simp only at h
  refine mask_ok hB hc i o ho hp j ?_
  have h2 := congrArg (fun z => z.testBit j) h
  simp only [Nat.testBit_and, Nat.testBit_two_pow_sub_one, hj, decide_true, Bool.and_true] at h2
  exact h2

/-! ### The data of the operations, taken out of the text -/
section
variable (l : List Oper) (env0 : List (Nat × D))
def Srd (res : List D) (i t : Nat) (d : D) : Prop :=
  (∃ j o, j < i ∧ l[j]? = some o ∧ o.dst = some t ∧ res[j]? = some d) ∨ ((∀ j o, j < i → l[j]? = some o → o.dst ≠ some t) ∧ lk t env0 = some d)
def GO (res : List D) (i : Nat) (o : Oper) (b : Bool) : Prop :=
  match o.guard with
  | none => b = true
  | some (g, want) => ∃ og s, l[g]? = some og ∧ og.dst = some s ∧ ((∃ c, Srd l env0 res i s (.bool c) ∧ b = (c == want)) ∨ (Srd l env0 res i s (.tup []) ∧ b = false))
def Fact (G : Glob) (P : Program) (n nx : Nat) (own : List (Nat × List D)) (res : List D) (i : Nat) : Prop :=
  ∃ o d, l[i]? = some o ∧ res[i]? = some d ∧ (∀ s, o.dst = some s → s < n) ∧
    ((GO l env0 res i o true ∧ ∃ r : List (Nat × D), (∀ t d, (t, d) ∈ r → t ∈ rdsO o.op ∧ Srd l env0 res i t d) ∧
        ∀ E' : List (Nat × D), opR G P o.op ⟨n, nx, r ++ E', own⟩ fun x T => x = d ∧ T = ⟨n, nx, r ++ E', own⟩) ∨
      (GO l env0 res i o false ∧ d = .tup []))
def Coh (res : List D) (i : Nat) (E : List (Nat × D)) : Prop := ∀ t d, lk t E = some d → Srd l env0 res i t d
end
variable {l : List Oper} {env0 : List (Nat × D)}
theorem Srd.ext {acc res : List D} {i t : Nat} {d : D} (h : acc <+: res) (hi : i ≤ acc.length) : Srd l env0 acc i t d ↔ Srd l env0 res i t d := by
  obtain ⟨r, rfl⟩ := h
  unfold Srd
  refine or_congr_left ⟨fun ⟨j, o, h1, h2, h3, h4⟩ => ⟨j, o, h1, h2, h3, by rw [List.getElem?_append_left (by omega)]; exact h4⟩, fun ⟨j, o, h1, h2, h3, h4⟩ => ⟨j, o, h1, h2, h3, by rw [List.getElem?_append_left (by omega)] at h4; exact h4⟩⟩
theorem GO.ext {acc res : List D} {i : Nat} {o : Oper} {b : Bool} (h : acc <+: res) (hi : i ≤ acc.length) (hg : GO l env0 acc i o b) : GO l env0 res i o b := by
  unfold GO at *
  split at hg
  · exact hg
  · obtain ⟨og, s, h1, h2, h3⟩ := hg
    refine ⟨og, s, h1, h2, h3.imp (fun ⟨c, h4, h5⟩ => ⟨c, (Srd.ext h hi).1 h4, h5⟩) fun ⟨h4, h5⟩ => ⟨(Srd.ext h hi).1 h4, h5⟩⟩
theorem rsW_ok {E : List (Nat × D)} : ∀ {ts : List Nat} {k : List (Nat × D) → Prop}, rsW ts E k → ∃ r, k r ∧ ∀ t d, (t, d) ∈ r → t ∈ ts ∧ lk t E = some d
  | [], k, h => ⟨[], h, by simp⟩
  | t :: ts, k, h => by
    obtain ⟨d, hd, h⟩ := lkW_ok h
    obtain ⟨r, hk, hr⟩ := rsW_ok h
    refine ⟨_, hk, fun u e hu => ?_⟩
    rcases List.mem_cons.1 hu with h | h
    · cases h; exact ⟨by simp, hd⟩
    · obtain ⟨h1, h2⟩ := hr u e h; exact ⟨by simp [h1], h2⟩
theorem Coh.step {acc : List D} {i : Nat} {E : List (Nat × D)} {o : Oper} {d : D} (h : Coh l env0 acc i E) (hi : acc.length = i) (ho : l[i]? = some o) :
    Coh l env0 (acc ++ [d]) (i + 1) (match o.dst with | none => E | some s => (s, d) :: E) := by
  intro t e he
  have key : lk t E = some e → o.dst ≠ some t → Srd l env0 (acc ++ [d]) (i + 1) t e := by
    intro h1 h2
    rcases h t e h1 with ⟨j, p, q1, q2, q3, q4⟩ | ⟨q1, q2⟩
    · exact .inl ⟨j, p, by omega, q2, q3, by rw [List.getElem?_append_left (by omega)]; exact q4⟩
    · refine .inr ⟨fun j p hj hp => ?_, q2⟩
      by_cases e1 : j = i
      · subst e1; rw [ho] at hp; cases hp; exact h2
      · exact q1 j p (by omega) hp
  cases hd : o.dst with
  | none => rw [hd] at he; exact key he (by rw [hd]; simp)
  | some s =>
    rw [hd] at he
    simp only [lk] at he
    split at he
    · rename_i e1; cases he; subst e1
      exact .inl ⟨i, o, by omega, ho, hd, by rw [List.getElem?_append_right (by omega)]; simp [hi]⟩
    · rename_i e1; exact key he (by rw [hd]; simp; exact fun h => e1 h.symm)

theorem drw_ext {G : Glob} {P : Program} {n nx : Nat} {own : List (Nat × List D)} {k' : St → Prop} {Z : List Oper → St → Prop} {post : List Oper} (hk' : ∀ S, k' S → Z post S) (hps : (post = [] ∧ ∀ r S, opsW G P l r S k' → Z r S) ∨ ∀ j o, j + post.length < l.length → l[j]? = some o → stb o.op = true) : ∀ (rest : List Oper) (i : Nat) (E : List (Nat × D)) (acc : List D), acc.length = i → i ≤ l.length → l.drop i = rest ++ post → (∀ j o, j < i → l[j]? = some o → stb o.op = true) →
    Coh l env0 acc i E → drwW G P l n nx own rest E k' → ∃ res, acc <+: res ∧ res.length ≤ l.length ∧ (∀ j o, j < res.length → l[j]? = some o → stb o.op = true) ∧ ((post = [] ∧ ∀ o, l[res.length]? = some o → stb o.op = false) ∨ res.length + post.length = l.length) ∧
      (∀ j, i ≤ j → j < res.length → Fact l env0 G P n nx own res j) ∧ ∃ E2, Coh l env0 res res.length E2 ∧ Z (l.drop res.length) ⟨n, nx, E2, own⟩
  | [], i, E, acc, hl, hle, hd, hst, hc, h => by
    rw [List.nil_append] at hd
    have hil : i + post.length = l.length := by
      have := congrArg List.length hd; simp at this; omega
    exact ⟨acc, List.prefix_refl _, by omega, fun j o hj => hst j o (by omega), .inr (by omega), fun j h1 h2 => by omega, E, by rw [hl]; exact hc, by rw [hl, hd]; exact hk' _ h⟩
  | o :: rest, i, E, acc, hl, hle, hd, hst, hc, h => by
    have ho : l[i]? = some o := by
      have := congrArg (fun z => z[0]?) hd; simpa using this
    have hd2 : l.drop (i + 1) = rest ++ post := by
      have := congrArg (List.drop 1) hd; simpa [List.drop_drop] using this
    have hil : i < l.length := (List.getElem?_eq_some_iff.1 ho).1
    unfold drwW at h
    split at h
    · rename_i hs
      rcases hps with ⟨rfl, hZ⟩ | hps
      · exact ⟨acc, List.prefix_refl _, by omega, fun j p hj => hst j p (by omega), .inl ⟨rfl, fun p hp => by rw [hl, ho] at hp; cases hp; exact hs⟩, fun j h1 h2 => by omega, E, by rw [hl]; exact hc, by rw [hl, hd, List.append_nil]; exact hZ _ _ h⟩
      · have hlen : i + (rest.length + 1 + post.length) = l.length := by
          have := congrArg List.length hd; simp at this; omega
        rw [hps i o (by omega) ho] at hs; cases hs
    · rename_i hs
      have hst' : ∀ j p, j < i + 1 → l[j]? = some p → stb p.op = true := fun j p hj hp => by
        by_cases e : j = i
        · subst e; rw [ho] at hp; cases hp; exact hs
        · exact hst j p (by omega) hp
      -- what remains, once the operation's data are known
      have go : ∀ (d : D) (E' : List (Nat × D)), Coh l env0 acc i E' → (putW o.dst d ⟨n, nx, E', own⟩ fun S => drwW G P l n nx own rest S.env k') →
          ((∀ s, o.dst = some s → s < n) → ∀ res, acc ++ [d] <+: res → Fact l env0 G P n nx own res i) →
          ∃ res, acc <+: res ∧ res.length ≤ l.length ∧ (∀ j o, j < res.length → l[j]? = some o → stb o.op = true) ∧ ((post = [] ∧ ∀ o, l[res.length]? = some o → stb o.op = false) ∨ res.length + post.length = l.length) ∧
            (∀ j, i ≤ j → j < res.length → Fact l env0 G P n nx own res j) ∧ ∃ E2, Coh l env0 res res.length E2 ∧ Z (l.drop res.length) ⟨n, nx, E2, own⟩ := by
        intro d E' hc' hp hf
        have hstep := hc'.step (d := d) hl ho
        have : (∀ s, o.dst = some s → s < n) ∧ drwW G P l n nx own rest (match o.dst with | none => E' | some s => (s, d) :: E') k' := by
          cases hdst : o.dst with
          | none => rw [hdst] at hp; exact ⟨(fun s hs => by cases hs), hp⟩
          | some s => rw [hdst] at hp; exact ⟨fun s' hs => by cases hs; exact hp.1, hp.2⟩
        obtain ⟨res, r1, r2, r3, r4, r5, r6⟩ := drw_ext hk' hps rest (i + 1) _ (acc ++ [d]) (by simp [hl]) (by omega) hd2 hst' hstep this.2
        refine ⟨res, (List.prefix_append acc [d]).trans r1, r2, r3, r4, fun j h1 h2 => ?_, r6⟩
        by_cases e : j = i
        · subst e; exact hf this.1 res r1
        · exact r5 j (by omega) h2
      have getd : ∀ {d : D} {res : List D}, acc ++ [d] <+: res → res[i]? = some d := by
        rintro d res ⟨r, rfl⟩
        rw [List.append_assoc, List.getElem?_append_right (by omega), hl]; simp
      have pre : ∀ {d : D} {res : List D}, acc ++ [d] <+: res → acc <+: res := fun h => (List.prefix_append _ _).trans h
      -- the operation is carried out
      have wanted : ∀ (E' : List (Nat × D)), Coh l env0 acc i E' → GO l env0 acc i o true →
          (rsW (rdsO o.op) E' fun r => exD (fun d => ∀ E'' : List (Nat × D), opR G P o.op ⟨n, nx, r ++ E'', own⟩ fun x T => x = d ∧ T = ⟨n, nx, r ++ E'', own⟩) (fun d => putW o.dst d ⟨n, nx, E', own⟩ fun S => drwW G P l n nx own rest S.env k') (tgd _)) →
          ∃ res, acc <+: res ∧ res.length ≤ l.length ∧ (∀ j o, j < res.length → l[j]? = some o → stb o.op = true) ∧ ((post = [] ∧ ∀ o, l[res.length]? = some o → stb o.op = false) ∨ res.length + post.length = l.length) ∧
            (∀ j, i ≤ j → j < res.length → Fact l env0 G P n nx own res j) ∧ ∃ E2, Coh l env0 res res.length E2 ∧ Z (l.drop res.length) ⟨n, nx, E2, own⟩ := by
        intro E' hc' hgo hr
        obtain ⟨r, ⟨d, hop, hk⟩, hrr⟩ := rsW_ok hr
        refine go d E' hc' hk fun hsn res hp => ⟨o, d, ho, getd hp, hsn, .inl ⟨hgo.ext (pre hp) (by omega), r, fun t e he => ⟨(hrr t e he).1, (Srd.ext (pre hp) (by omega)).1 (hc' t e (hrr t e he).2)⟩, hop⟩⟩
      have skipped : ∀ (E' : List (Nat × D)), Coh l env0 acc i E' → GO l env0 acc i o false → (putW o.dst (.tup []) ⟨n, nx, E', own⟩ fun S => drwW G P l n nx own rest S.env k') →
          ∃ res, acc <+: res ∧ res.length ≤ l.length ∧ (∀ j o, j < res.length → l[j]? = some o → stb o.op = true) ∧ ((post = [] ∧ ∀ o, l[res.length]? = some o → stb o.op = false) ∨ res.length + post.length = l.length) ∧
            (∀ j, i ≤ j → j < res.length → Fact l env0 G P n nx own res j) ∧ ∃ E2, Coh l env0 res res.length E2 ∧ Z (l.drop res.length) ⟨n, nx, E2, own⟩ := by
        intro E' hc' hgo hk
        exact go _ E' hc' hk fun hsn res hp => ⟨o, _, ho, getd hp, hsn, .inr ⟨hgo.ext (pre hp) (by omega), rfl⟩⟩
      unfold grdW at h
      split at h
      · rename_i hg
        exact wanted E hc (by unfold GO; rw [hg]) h
      · rename_i g want hg
        obtain ⟨s, hs2, h⟩ := dstW_ok h
        obtain ⟨og, hog, hogd⟩ : ∃ og, l[g]? = some og ∧ og.dst = some s := by
          cases hx : l[g]? with
          | none => rw [hx] at hs2; cases hs2
          | some og => rw [hx] at hs2; exact ⟨og, rfl, hs2⟩
        obtain ⟨dg, hdg, h⟩ := lkW_ok h
        have hsrc := hc s dg hdg
        have hcons : ∀ b : Bool, dg = .bool b → Coh l env0 acc i ((s, .bool b) :: E) := by
          intro b hb t e he
          simp only [lk] at he
          split at he
          · rename_i e1; cases he; subst e1; rw [← hb]; exact hsrc
          · exact hc t e he
        split at h
        · rename_i c
          by_cases e : c = want
          · exact wanted _ (hcons want (by rw [e])) (by unfold GO; rw [hg]; exact ⟨og, s, hog, hogd, .inl ⟨c, hsrc, by simp [e]⟩⟩) (h.1 e)
          · have e2 : (!want) = c := by cases c <;> cases want <;> simp_all
            exact skipped _ (hcons (!want) (by rw [e2])) (by unfold GO; rw [hg]; exact ⟨og, s, hog, hogd, .inl ⟨c, hsrc, by simp [e]⟩⟩) (h.2 e)
        · exact skipped E hc (by unfold GO; rw [hg]; exact ⟨og, s, hog, hogd, .inr ⟨hsrc, rfl⟩⟩) h
        · exact h.elim

/-! ### In whatever order -/
open Classical in
/-- What is known of the slots, once these operations are done. -/
def eL (l : List Oper) (env0 : List (Nat × D)) (res : List D) (m : Nat) (L : Array Bool) (t : Nat) (d : D) : Prop :=
  (∃ j o, j < m ∧ Lst L j ∧ l[j]? = some o ∧ o.dst = some t ∧ res[j]? = some d) ∨ ((∀ j o, j < m → Lst L j → l[j]? = some o → o.dst ≠ some t) ∧ lk t env0 = some d)
theorem nodup_dst : ∀ {l : List Oper} {m i j : Nat} {o p : Oper} {t : Nat}, ((l.take m).filterMap (·.dst)).Nodup → i < m → j < m → l[i]? = some o → l[j]? = some p → o.dst = some t → p.dst = some t → i = j := by
  intro l
  induction l with
  | nil => intro m i j o p t _ _ _ hi; simp at hi
  | cons x r ih =>
    intro m i j o p t hn hi hj hio hjp ho hp
    cases m with
    | zero => omega
    | succ m =>
      rw [List.take_succ_cons] at hn
      have mem : ∀ {k : Nat} {q : Oper}, k < m → r[k]? = some q → q.dst = some t → t ∈ (r.take m).filterMap (·.dst) := fun {k q} hk hq hd =>
        List.mem_filterMap.2 ⟨q, List.mem_of_getElem? (by rw [List.getElem?_take_of_lt hk]; exact hq), hd⟩
      cases i with
      | zero =>
        cases j with
        | zero => rfl
        | succ j =>
          simp at hio; subst hio
          rw [List.filterMap_cons, ho, List.nodup_cons] at hn
          exact absurd (mem (k := j) (by omega) (by simpa using hjp) hp) hn.1
      | succ i =>
        cases j with
        | zero =>
          simp at hjp; subst hjp
          rw [List.filterMap_cons, hp, List.nodup_cons] at hn
          exact absurd (mem (k := i) (by omega) (by simpa using hio) ho) hn.1
        | succ j =>
          have hn2 : ((r.take m).filterMap (·.dst)).Nodup := by
            rw [List.filterMap_cons] at hn
            split at hn
            · exact hn
            · exact (List.nodup_cons.1 hn).2
          have e := ih (m := m) (i := i) (j := j) hn2 (by omega) (by omega) (by simpa using hio) (by simpa using hjp) ho hp
          rw [e]
theorem eL_fun {res : List D} {m : Nat} {L : Array Bool} {t : Nat} {d e : D} (hB : DrwB l m) (h1 : eL l env0 res m L t d) (h2 : eL l env0 res m L t e) : d = e := by
  rcases h1 with ⟨j, o, a1, a2, a3, a4, a5⟩ | ⟨a1, a2⟩ <;> rcases h2 with ⟨j', o', b1, b2, b3, b4, b5⟩ | ⟨b1, b2⟩
  · obtain rfl := nodup_dst hB.nodup a1 b1 a3 b3 a4 b4
    exact Option.some.inj (a5.symm.trans b5)
  · exact absurd a4 (b1 j o a1 a2 a3)
  · exact absurd b4 (a1 j' o' b1 b2 b3)
  · exact Option.some.inj (a2.symm.trans b2)
/-- What an operation reads of earlier ones is there. -/
theorem Srd.eL {res : List D} {m i t : Nat} {d : D} {o : Oper} {L : Array Bool} (hB : DrwB l m) (him : i < m) (ho : l[i]? = some o) (ht : t ∈ rdsO o.op ++ (grdSlot l o).toList) (hp : ∀ e ∈ o.after.toList, Region.binds .any e = true → Lst L e.on)
    (h : Srd l env0 res i t d) : eL l env0 res m L t d := by
  have mem : ∀ {k : Nat} {q : Oper}, k < m → l[k]? = some q → (q, k) ∈ (l.take m).zipIdx := fun {k q} hk hq => mem_zip (by rw [List.getElem?_take_of_lt hk]; exact hq)
  have lst : ∀ j, dir o j = true → Lst L j := by
    intro j hj
    obtain ⟨e, he, h⟩ := List.any_eq_true.1 hj
    simp only [Bool.and_eq_true, beq_iff_eq] at h
    rw [← h.2]; exact hp e he h.1
  rcases h with ⟨j, p, h1, h2, h3, h4⟩ | ⟨h1, h2⟩
  · have := hB.reads _ (mem him ho) t ht _ (mem (by omega) h2) h3
    exact .inl ⟨j, p, by omega, lst j this.2, h2, h3, h4⟩
  · refine .inr ⟨fun j p hj _ hp2 hd => ?_, h2⟩
    have := hB.reads _ (mem him ho) t ht _ (mem hj hp2) hd
    exact h1 j p this.1 hp2 hd

noncomputable def fE (f : Nat → D → Prop) (t : Nat) : Option D := @dite _ (∃ d, f t d) (Classical.propDecidable _) (fun h => some (Classical.choose h)) fun _ => none
noncomputable def EnvOf (n : Nat) (f : Nat → D → Prop) : List (Nat × D) := (List.range n).filterMap fun t => (fE f t).map fun d => (t, d)
theorem fE_ok {f : Nat → D → Prop} {t : Nat} {d : D} (h : fE f t = some d) : f t d := by
  unfold fE at h
  split at h
  · rename_i hx; cases h; exact Classical.choose_spec hx
  · cases h
theorem lk_filter {g : Nat → Option D} : ∀ (ts : List Nat) (t : Nat), lk t (ts.filterMap fun t => (g t).map fun d => (t, d)) = if t ∈ ts then g t else none
  | [], t => rfl
  | u :: r, t => by
    have ih := lk_filter (g := g) r t
    rw [List.filterMap_cons]
    cases hg : g u with
    | none =>
      simp only [Option.map_none]
      rw [ih]
      by_cases e : t = u
      · subst e; simp [hg]
      · simp [e]
    | some d =>
      simp only [Option.map_some, lk]
      by_cases e : t = u
      · subst e; simp [hg]
      · rw [if_neg e, ih]; simp [e]
theorem lk_EnvOf {n t : Nat} {f : Nat → D → Prop} : lk t (EnvOf n f) = if t < n then fE f t else none := by
  unfold EnvOf
  rw [lk_filter]; simp
theorem lk_app {t : Nat} : ∀ {a b : List (Nat × D)} {d : D}, lk t (a ++ b) = some d → (t, d) ∈ a ∨ ((∀ e, (t, e) ∉ a) ∧ lk t b = some d)
  | [], b, d, h => .inr ⟨by simp, h⟩
  | (s, e) :: a, b, d, h => by
    simp only [List.cons_append, lk] at h
    split at h
    · rename_i h1; cases h; subst h1; exact .inl (by simp)
    · rename_i h1
      rcases lk_app h with h | ⟨h2, h3⟩
      · exact .inl (by simp [h])
      · exact .inr ⟨fun e' he => by rcases List.mem_cons.1 he with h | h; · cases h; exact h1 rfl
                                    · exact h2 _ h, h3⟩
theorem lk_app_mk {t : Nat} {a b : List (Nat × D)} {d : D} (hb : lk t b = some d) (ha : ∀ e, (t, e) ∈ a → e = d) : lk t (a ++ b) = some d := by
  induction a with
  | nil => exact hb
  | cons x a ih =>
    obtain ⟨s, e⟩ := x
    simp only [List.cons_append, lk]
    split
    · rename_i h1; subst h1; rw [ha e (by simp)]
    · exact ih fun e he => ha e (by simp [he])

def unl (L : Array Bool) : Nat := L.toList.count false
theorem unl_set {L : Array Bool} {i : Nat} (h : L.getD i true = false) : unl (L.setIfInBounds i true) + 1 = unl L := by
  have hi : i < L.size := by
    rcases Nat.lt_or_ge i L.size with h2 | h2
    · exact h2
    · rw [Array.getD_eq_getD_getElem?, Array.getElem?_eq_none h2] at h; cases h
  have hv : L.toList[i]'(by simpa using hi) = false := by
    rw [Array.getD_eq_getD_getElem?, Array.getElem?_eq_getElem hi] at h
    simpa using h
  unfold unl
  rw [Array.toList_setIfInBounds, List.count_set (by simpa using hi), hv]
  have : 0 < L.toList.count false := List.count_pos_iff.2 (by rw [← hv]; exact List.getElem_mem _)
  rw [if_pos (by rfl), if_neg (by decide)]; omega
theorem lst_set {L : Array Bool} {i j : Nat} (hi : i < L.size) : Lst (L.setIfInBounds i true) j ↔ j = i ∨ Lst L j := by
  unfold Lst
  by_cases e : j = i
  · subst e; simp [Array.getD_eq_getD_getElem?, hi]
  · simp only [Array.getD_eq_getD_getElem?, e, false_or]
    rw [Array.getElem?_setIfInBounds_ne (fun h => e h.symm)]

section
variable {G : Glob} {P : Program} {w0 : Bas} {n nx : Nat} {own : List (Nat × List D)} {Q : Exit → Act → World → Prop} {df : List Deferred} {res : List D} {m : Nat} {r : Option Nat} {N : Nat}

structure InvC (l : List Oper) (L : Array Bool) : Prop where
  size : L.size = l.length
  closed : Closed l L
/-- Before the tail; in the tail. -/
def Inv (r : Option Nat) (N : Nat) (G : Glob) (P : Program) (w0 : Bas) (n nx : Nat) (own : List (Nat × List D)) (Q : Exit → Act → World → Prop) (df : List Deferred) (l : List Oper) (env0 : List (Nat × D)) (res : List D) (m : Nat) (L : Array Bool) (a : Act) (w : World) : Prop :=
  ((∀ j, m ≤ j → ¬ Lst L j) ∧ a.defers = df ∧ ∃ φ, SatC w0 φ ⟨n, nx, [], own⟩ a.tmps w ∧ ∀ t d, eL l env0 res m L t d → ∃ v, a.tmps[t]? = some v ∧ Rep φ w (FSx φ own w) v d) ∨
  ∃ j0, m ≤ j0 ∧ (∀ j, j < j0 → j < l.length → Lst L j) ∧ (∀ j, j0 ≤ j → ¬ Lst L j) ∧ wpListIn (fw r) N P l.toArray Q (l.drop j0) a w

theorem all_listed (hB : DrwB l m) {L : Array Bool} (hs : L.size = l.length) (hr : Region.ready .any l.toArray L = []) : ∀ j, j < l.length → Lst L j := by
  intro j
  induction j using Nat.strongRecOn with
  | ind j ih =>
    intro hj
    cases hL : L.getD j true with
    | true =>
      unfold Lst
      rw [Array.getD_eq_getD_getElem?, Array.getElem?_eq_getElem (by omega)] at hL ⊢
      exact hL
    | false =>
      have : j ∈ Region.ready .any l.toArray L := mem_ready.2 ⟨hL, l[j], by simp [hj], fun e he hb => by
        have := hB.back (l[j], j) (mem_zip (by simp [hj])) e (by simpa using he) hb
        exact ih e.on this (by simp only at this; omega)⟩
      rw [hr] at this; cases this
theorem lst_false {L : Array Bool} {j : Nat} (h : L.getD j true = false) : ¬ Lst L j := by
  unfold Lst
  intro h2
  rcases Nat.lt_or_ge j L.size with hl | hl
  · rw [Array.getD_eq_getD_getElem?, Array.getElem?_eq_getElem hl] at h h2
    simp at h h2; rw [h] at h2; cases h2
  · rw [Array.getD_eq_getD_getElem?, Array.getElem?_eq_none hl] at h; cases h

theorem drw_run (hG : GOk G w0) (hB : DrwB l m) (hml : m ≤ l.length) (hmr : res.length = m) (hf : ∀ j, j < m → Fact l env0 G P n nx own res j)
    (E2 : List (Nat × D)) (hE2 : Coh l env0 res m E2) (tailOk : ∀ (a : Act) (w : World) (φ : Loc), a.defers = df → SatC w0 φ ⟨n, nx, E2, own⟩ a.tmps w → wpListIn (fw r) N P l.toArray Q (l.drop m) a w) :
    ∀ (fuel : Nat) (L : Array Bool) (a : Act) (w : World), InvC l L → unl L ≤ fuel → Inv r N G P w0 n nx own Q df l env0 res m L a w → wpAnyIn (fw r) N P .any l.toArray Q fuel L a w := by
  -- all of the head is done: the tail is next
  have toTail : ∀ {L : Array Bool} {a : Act} {w : World}, (∀ j, j < m → Lst L j) → Inv r N G P w0 n nx own Q df l env0 res m L a w → ∃ j0, m ≤ j0 ∧ (∀ j, j < j0 → j < l.length → Lst L j) ∧ (∀ j, j0 ≤ j → ¬ Lst L j) ∧ wpListIn (fw r) N P l.toArray Q (l.drop j0) a w := by
    intro L a w hall h
    rcases h with ⟨h1, hd, φ, hs, he⟩ | h
    · refine ⟨m, Nat.le_refl _, fun j hj _ => hall j hj, h1, tailOk a w φ hd ⟨hs.below, hs.size, hs.own, hs.inj, fun s d hd => he s d ?_, hs.base, hs.pin⟩⟩
      rcases hE2 s d hd with ⟨j, o, q1, q2, q3, q4⟩ | ⟨q1, q2⟩
      · exact .inl ⟨j, o, q1, hall j q1, q2, q3, q4⟩
      · exact .inr ⟨fun j o hj _ hl => q1 j o hj hl, q2⟩
    · exact h
  have finish : ∀ {L : Array Bool} {a : Act} {w : World}, InvC l L → Region.ready .any l.toArray L = [] → Inv r N G P w0 n nx own Q df l env0 res m L a w → Q .normal a w := by
    intro L a w hI hr h
    have hall := all_listed hB hI.size hr
    obtain ⟨j0, h1, h2, h3, h4⟩ := toTail (fun j hj => hall j (by omega)) h
    have : l.length ≤ j0 := by
      rcases Nat.lt_or_ge j0 l.length with h | h
      · exact absurd (hall j0 h) (h3 j0 (Nat.le_refl _))
      · exact h
    rw [List.drop_of_length_le this] at h4
    exact h4
  intro fuel
  induction fuel with
  | zero =>
    intro L a w hI hu h
    have hr : Region.ready .any l.toArray L = [] := by
      rw [List.eq_nil_iff_forall_not_mem]
      intro j hj
      have := unl_set (mem_ready.1 hj).1
      omega
    exact ⟨hr, finish hI hr h⟩
  | succ fuel ih =>
    intro L a w hI hu h
    refine ⟨fun hr => finish hI hr h, fun i hi => ?_⟩
    obtain ⟨hun, o, ho, hp⟩ := mem_ready.1 hi
    have ho' : l[i]? = some o := by simpa using ho
    have hil : i < l.length := (List.getElem?_eq_some_iff.1 ho').1
    have hp' : ∀ e ∈ o.after.toList, Region.binds .any e = true → Lst L e.on := fun e he hb => hp e (by simpa using he) hb
    have hnl := lst_false hun
    have hisz : i < L.size := by rw [hI.size]; exact hil
    have hI' : InvC l (L.setIfInBounds i true) := by
      refine ⟨by simp [hI.size], fun j p hj hl e he hb => ?_⟩
      rw [lst_set hisz] at hl ⊢
      rcases hl with rfl | hl
      · rw [ho'] at hj; cases hj; exact .inr (hp' e he hb)
      · exact .inr (hI.closed j p hj hl e he hb)
    have hu' : unl (L.setIfInBounds i true) ≤ fuel := by have := unl_set hun; omega
    unfold wpOpIn
    rw [ho]
    simp only
    by_cases him : m ≤ i
    · -- the tail
      have hall := tail_all hB hI.closed ho' him hp'
      obtain ⟨j0, h1, h2, h3, h4⟩ := toTail (fun j hj => hall j (by omega)) h
      obtain rfl : j0 = i := by
        rcases Nat.lt_trichotomy j0 i with hlt | he | hgt
        · exact absurd (hall j0 hlt) (h3 j0 (Nat.le_refl _))
        · exact he
        · exact absurd (h2 i hgt hil) hnl
      rw [List.drop_eq_getElem_cons hil] at h4
      have hoe : l[j0] = o := by rw [List.getElem?_eq_getElem hil] at ho'; exact Option.some.inj ho'
      rw [hoe] at h4
      unfold wpListIn at h4
      have next : ∀ a' w', wpListIn (fw r) N P l.toArray Q (l.drop (j0 + 1)) a' w' → wpAnyIn (fw r) N P .any l.toArray Q fuel (L.setIfInBounds j0 true) a' w' := by
        intro a' w' hw
        refine ih _ a' w' hI' hu' (.inr ⟨j0 + 1, by omega, fun j hj hjl => ?_, fun j hj hl => ?_, hw⟩)
        · rw [lst_set hisz]
          by_cases e : j = j0
          · exact .inl e
          · exact .inr (hall j (by omega))
        · rw [lst_set hisz] at hl
          rcases hl with e | hl
          · omega
          · exact h3 j (by omega) hl
      split at h4
      · rename_i hw; rw [if_pos hw]; exact Oper.wpIn_mono next h4
      · rename_i hw; rw [if_neg hw]; exact ⟨h4.1, next _ _ h4.2⟩
    · -- the head
      have him : i < m := by omega
      have hA : (∀ j, m ≤ j → ¬ Lst L j) ∧ a.defers = df ∧ ∃ φ, SatC w0 φ ⟨n, nx, [], own⟩ a.tmps w ∧ ∀ t d, eL l env0 res m L t d → ∃ v, a.tmps[t]? = some v ∧ Rep φ w (FSx φ own w) v d := by
        rcases h with h | ⟨j0, h1, h2, _⟩
        · exact h
        · exact absurd (h2 i (by omega) hil) hnl
      obtain ⟨hA1, hAd, φ, hs, he⟩ := hA
      obtain ⟨o2, d, ho2, hres, hdst, hfact⟩ := hf i him
      rw [ho'] at ho2; cases ho2
      -- what an operation reads is known
      have rd : ∀ {t d}, t ∈ rdsO o.op ++ (grdSlot l o).toList → Srd l env0 res i t d → ∃ v, a.tmps[t]? = some v ∧ Rep φ w (FSx φ own w) v d := fun ht h => he _ _ (h.eL hB him ho' ht hp')
      -- the state behind it
      have step : ∀ {a' : Act} {w' : World} {φ' : Loc} {v : Value}, a' = a.put o.dst v → SatC w0 φ' ⟨n, nx, [], own⟩ a.tmps w' → (∀ t d, eL l env0 res m L t d → ∃ v, a.tmps[t]? = some v ∧ Rep φ' w' (FSx φ' own w') v d) → Rep φ' w' (FSx φ' own w') v d →
          wpAnyIn (fw r) N P .any l.toArray Q fuel (L.setIfInBounds i true) a' w' := by
        rintro a' w' φ' v rfl hs' he' hr
        have hsz : a.tmps.size = n := hs'.size
        refine ih _ _ w' hI' hu' (.inl ⟨fun j hj hl => ?_, by rw [put_defers]; exact hAd, φ', ?_, fun t e hte => ?_⟩)
        · rw [lst_set hisz] at hl
          rcases hl with h | h
          · omega
          · exact hA1 j hj h
        · cases hd : o.dst with
          | none => exact hs'
          | some s => exact ⟨hs'.below, by simp [Act.put, hsz], hs'.own, hs'.inj, fun s d hd => by simp [lk] at hd, hs'.base, hs'.pin⟩
        · -- the slot that is written, the others
          have old : o.dst ≠ some t → eL l env0 res m L t e → ∃ v', (a.put o.dst v).tmps[t]? = some v' ∧ Rep φ' w' (FSx φ' own w') v' e := by
            intro hne hx
            obtain ⟨u, hu1, hu2⟩ := he' t e hx
            refine ⟨u, ?_, hu2⟩
            cases hd : o.dst with
            | none => exact hu1
            | some s =>
              have : s ≠ t := fun h => hne (by rw [hd, h])
              simp only [Act.put]
              rw [Array.getElem?_setIfInBounds_ne this]; exact hu1
          have new : o.dst = some t → e = d → ∃ v', (a.put o.dst v).tmps[t]? = some v' ∧ Rep φ' w' (FSx φ' own w') v' e := by
            intro hd hed
            subst hed
            rw [hd]
            exact ⟨v, by simp only [Act.put]; rw [Array.getElem?_setIfInBounds_self_of_lt (by rw [hsz]; exact hdst t hd)], hr⟩
          rcases hte with ⟨j, p, q1, q2, q3, q4, q5⟩ | ⟨q1, q2⟩
          · rw [lst_set hisz] at q2
            by_cases hji : j = i
            · subst hji
              rw [ho'] at q3; cases q3
              exact new q4 (Option.some.inj (q5.symm.trans hres))
            · have q2 : Lst L j := q2.resolve_left hji
              exact old (fun hd => hji (nodup_dst hB.nodup q1 him q3 ho' q4 hd)) (.inl ⟨j, p, q1, q2, q3, q4, q5⟩)
          · exact old (q1 i o him (by rw [lst_set hisz]; exact .inl rfl) ho') (.inr ⟨fun j p hj hl hp => q1 j p hj (by rw [lst_set hisz]; exact .inr hl) hp, q2⟩)
      -- the guard
      have grd : ∀ {b : Bool}, GO l env0 res i o b → Region.wanted o (yielded l.toArray a.tmps) = b := by
        intro b hgo
        unfold GO at hgo
        unfold Region.wanted
        split at hgo
        · rename_i hg; rw [hg]; exact hgo.symm
        · rename_i g want hg
          obtain ⟨og, s, hog, hogd, hc⟩ := hgo
          have hslot : s ∈ rdsO o.op ++ (grdSlot l o).toList := by
            simp [grdSlot, hg, hog, hogd]
          have hy : (l[g]?).bind (·.dst) = some s := by rw [hog]; exact hogd
          rw [hg]
          simp only
          rcases hc with ⟨c, hsrc, rfl⟩ | ⟨hsrc, rfl⟩
          · obtain ⟨v, hv, hrep⟩ := rd hslot hsrc
            rw [yielded_at hy hv, hrep.bool_inv]
            cases c <;> cases want <;> rfl
          · obtain ⟨v, hv, hrep⟩ := rd hslot hsrc
            obtain ⟨vs, rfl, _⟩ := hrep.tup_inv
            rw [yielded_at hy hv]; rfl
      rcases hfact with ⟨hgo, r, hr, hop⟩ | ⟨hgo, rfl⟩
      · rw [grd hgo, if_pos rfl]
        -- all that is known, as a list
        have hEn : ∀ t e, lk t (r ++ EnvOf n (eL l env0 res m L)) = some e → eL l env0 res m L t e := by
          intro t e hx
          rcases lk_app hx with hx | ⟨_, hx⟩
          · exact (hr t e hx).2.eL hB him ho' (by simp [(hr t e hx).1]) hp'
          · rw [lk_EnvOf] at hx
            split at hx
            · exact fE_ok hx
            · cases hx
        have hs2 : SatC w0 φ ⟨n, nx, r ++ EnvOf n (eL l env0 res m L), own⟩ a.tmps w := ⟨hs.below, hs.size, hs.own, hs.inj, fun s d hd => he s d (hEn s d hd), hs.base, hs.pin⟩
        refine opR_ok hG hs2 o (hop _) ?_
        rintro v w' ⟨φ', x, S', ⟨rfl, rfl⟩, hs3, hr3, _⟩
        refine step rfl ⟨hs3.below, hs3.size, hs3.own, hs3.inj, fun s d hd => by simp [lk] at hd, hs3.base, hs3.pin⟩ (fun t e hx => hs3.env t e ?_) hr3
        have hlt : t < n := by
          obtain ⟨u, hu1, _⟩ := he t e hx
          have := (Array.getElem?_eq_some_iff.1 hu1).1
          have h2 : a.tmps.size = n := hs.size
          omega
        refine lk_app_mk ?_ fun e' he' => eL_fun hB ((hr t e' he').2.eL hB him ho' (by simp [(hr t e' he').1]) hp') hx
        rw [lk_EnvOf, if_pos hlt]
        have hex : ∃ d, eL l env0 res m L t d := ⟨e, hx⟩
        unfold fE
        rw [dif_pos hex]
        rw [eL_fun hB (Classical.choose_spec hex) hx]
      · rw [grd hgo, if_neg (by simp)]
        refine ⟨fun _ _ => trivial, ?_⟩
        exact step rfl hs he (.ro (.tup rfl fun i v d hv => by simp [undef] at hv))
end

/-! ### The region -/
theorem lst_none {n j : Nat} : ¬ Lst (Array.replicate n false) j := by
  unfold Lst
  rw [Array.getD_eq_getD_getElem?, Array.getElem?_replicate]
  split <;> simp
theorem takeWhile_st {l : List Oper} {m : Nat} (h1 : ∀ j o, j < m → l[j]? = some o → stb o.op = true) (h2 : ∀ o, l[m]? = some o → stb o.op = false) (hm : m ≤ l.length) : preN l = m := by
  unfold preN
  induction l generalizing m with
  | nil => simp at hm; simp [hm]
  | cons x r ih =>
    cases m with
    | zero =>
      have := h2 x rfl
      simp [List.takeWhile_cons, this]
    | succ m =>
      have := h1 0 x (by omega) rfl
      rw [List.takeWhile_cons, this, if_pos rfl, List.length_cons]
      rw [ih (m := m) (fun j o hj ho => h1 (j + 1) o (by omega) (by simpa using ho)) (fun o ho => h2 o (by simpa using ho)) (by simpa using hm)]

theorem drw_fin {r : Option Nat} {N : Nat} {G : Glob} {P : Program} {w0 : Bas} {w : World} {φ : Loc} {S : St} {a : Act} {Q : Exit → Act → World → Prop} {l : List Oper} {id : Nat} {res : List D} {E2 : List (Nat × D)} (hG : GOk G w0) (hm : P.follows .mixedOrders = true) (hB : drwB l res.length = true)
    (hs : SatC w0 φ S a.tmps w) (r2 : res.length ≤ l.length) (r5 : ∀ j, 0 ≤ j → j < res.length → Fact l S.env G P S.n S.nx S.own res j) (hE2 : Coh l S.env res res.length E2) (ht : ∀ a' w' φ', SatC w0 φ' ⟨S.n, S.nx, E2, S.own⟩ a'.tmps w' → a'.defers = a.defers → wpListIn (fw r) N P l.toArray Q (l.drop res.length) a' w') : (Code.region id l.toArray true).wpIn (fw r) N P Q a w := by
  have hB := drwB_ok hB
  refine wpIn_region_any hm ?_
  have hsz : l.toArray.size = l.length := by simp
  rw [hsz]
  refine drw_run (w0 := w0) (n := S.n) (nx := S.nx) (own := S.own) (df := a.defers) (res := res) (m := res.length) (env0 := S.env) hG hB r2 rfl (fun j hj => r5 j (by omega) hj) E2 hE2 (fun a' w' φ' hd hs' => ?_) l.length _ a _ ⟨by simp, fun j o hj hl => ?_⟩ ?_ (.inl ⟨fun j hj hl => ?_, rfl, φ, ?_⟩)
  · exact ht a' w' φ' hs' hd
  · exact absurd hl lst_none
  · unfold unl; simp
  · exact absurd hl lst_none
  · have hs2 := hs.drew
    refine ⟨⟨hs2.below, hs2.size, hs2.own, hs2.inj, fun s d hd => by simp [lk] at hd, hs2.base, hs2.pin⟩, fun t d ht => ?_⟩
    refine hs2.env t d ?_
    rcases ht with ⟨j, o, q1, q2, q3, q4, q5⟩ | ⟨_, q2⟩
    · exact absurd q2 lst_none
    · exact q2
theorem drw_ok {r : Option Nat} {N : Nat} {G : Glob} {P : Program} {w0 : Bas} {w : World} {φ : Loc} {S : St} {a : Act} {k : St → Prop} {Q : Exit → Act → World → Prop} {l : List Oper} {id : Nat} (hG : GOk G w0) (hm : P.follows .mixedOrders = true) (hB : drwB l (preN l) = true)
    (hs : SatC w0 φ S a.tmps w) (h : drwW G P l S.n S.nx S.own l S.env k) (hn : ∀ S' a' w' φ', k S' → SatC w0 φ' S' a'.tmps w' → S'.n = S.n → a'.defers = a.defers → Q .normal a' w') : (Code.region id l.toArray true).wpIn (fw r) N P Q a w := by
  obtain ⟨res, _, r2, r3, r4, r5, E2, hE2, hk⟩ := drw_ext (l := l) (env0 := S.env) (Z := fun r S => opsW G P l r S k) (k' := k) (post := []) (fun S h => h) (.inl ⟨rfl, fun _ _ h => h⟩) l 0 S.env [] rfl (Nat.zero_le _) (by simp) (fun j o hj => by omega) (fun t d hd => .inr ⟨fun j o hj => by omega, hd⟩) h
  have hpre : preN l = res.length := takeWhile_st r3 (fun o ho => by
    rcases r4 with r4 | r4
    · exact r4.2 o ho
    · rw [List.getElem?_eq_none (by simp at r4; omega)] at ho; cases ho) r2
  rw [hpre] at hB
  exact drw_fin hG hm hB hs r2 r5 hE2 fun a' w' φ' hs' hd => opsW_ok hG hs' hk fun S2 a2 w2 φ2 q1 q2 q3 q4 => hn S2 a2 w2 φ2 q1 q2 q3 (q4.trans hd)
/-- The same, where the operations that may come in any order are the first m. -/
theorem drw_ok2 {r : Option Nat} {N : Nat} {G : Glob} {P : Program} {w0 : Bas} {w : World} {φ : Loc} {S : St} {a : Act} {k : St → Prop} {Q : Exit → Act → World → Prop} {l : List Oper} {id m : Nat} (hG : GOk G w0) (hm : P.follows .mixedOrders = true) (hml : m ≤ l.length) (hst : (l.take m).all (fun o => stb o.op) = true) (hB : drwB l m = true)
    (hs : SatC w0 φ S a.tmps w) (h : drwW G P l S.n S.nx S.own (l.take m) S.env fun S => opsW G P l (l.drop m) S k) (hn : ∀ S' a' w' φ', k S' → SatC w0 φ' S' a'.tmps w' → S'.n = S.n → a'.defers = a.defers → Q .normal a' w') : (Code.region id l.toArray true).wpIn (fw r) N P Q a w := by
  have hst' : ∀ (j : Nat) (o : Oper), j + (l.drop m).length < l.length → l[j]? = some o → stb o.op = true := by
    intro j o hj ho
    rw [List.length_drop] at hj
    exact List.all_eq_true.1 hst o (List.mem_of_getElem? (by rw [List.getElem?_take_of_lt (show j < m by omega)]; exact ho))
  by_cases hml2 : m = l.length
  · subst hml2
    rw [List.take_length, List.drop_length] at h
    refine drw_ok hG hm ?_ hs h hn
    rw [takeWhile_st (m := l.length) (fun j o hj ho => List.all_eq_true.1 hst o (by rw [List.take_length]; exact List.mem_of_getElem? ho)) (fun o ho => by rw [List.getElem?_eq_none (by omega)] at ho; cases ho) (Nat.le_refl _)]
    exact hB
  obtain ⟨res, _, r2, r3, r4, r5, E2, hE2, hk⟩ := drw_ext (l := l) (env0 := S.env) (Z := fun r S => opsW G P l r S k) (k' := fun S => opsW G P l (l.drop m) S k) (post := l.drop m) (fun S h => h) (.inr hst') (l.take m) 0 S.env [] rfl (Nat.zero_le _) (by simp) (fun j o hj => by omega) (fun t d hd => .inr ⟨fun j o hj => by omega, hd⟩) h
  have hpre : res.length = m := by
    rcases r4 with r4 | r4
    · have := congrArg List.length r4.1
      rw [List.length_drop, List.length_nil] at this; omega
    · rw [List.length_drop] at r4; omega
  rw [← hpre] at hB
  exact drw_fin hG hm hB hs r2 r5 hE2 fun a' w' φ' hs' hd => opsW_ok hG hs' hk fun S2 a2 w2 φ2 q1 q2 q3 q4 => hn S2 a2 w2 φ2 q1 q2 q3 (q4.trans hd)
/-- .. and whatever the rest is. -/
theorem drw_tail {r : Option Nat} {N : Nat} {G : Glob} {P : Program} {w0 : Bas} {w : World} {φ : Loc} {S : St} {a : Act} {kt : St → Prop} {Q : Exit → Act → World → Prop} {l : List Oper} {id m : Nat} (hG : GOk G w0) (hm : P.follows .mixedOrders = true) (hml : m < l.length) (hst : (l.take m).all (fun o => stb o.op) = true) (hB : drwB l m = true)
    (hs : SatC w0 φ S a.tmps w) (h : drwW G P l S.n S.nx S.own (l.take m) S.env kt) (ht : ∀ S' a' w' φ', kt S' → SatC w0 φ' S' a'.tmps w' → S'.n = S.n → a'.defers = a.defers → wpListIn (fw r) N P l.toArray Q (l.drop m) a' w') : (Code.region id l.toArray true).wpIn (fw r) N P Q a w := by
  have hst' : ∀ (j : Nat) (o : Oper), j + (l.drop m).length < l.length → l[j]? = some o → stb o.op = true := by
    intro j o hj ho
    rw [List.length_drop] at hj
    exact List.all_eq_true.1 hst o (List.mem_of_getElem? (by rw [List.getElem?_take_of_lt (show j < m by omega)]; exact ho))
  obtain ⟨res, _, r2, r3, r4, r5, E2, hE2, hk⟩ := drw_ext (l := l) (env0 := S.env) (Z := fun _ S => kt S) (k' := kt) (post := l.drop m) (fun S h => h) (.inr hst') (l.take m) 0 S.env [] rfl (Nat.zero_le _) (by simp) (fun j o hj => by omega) (fun t d hd => .inr ⟨fun j o hj => by omega, hd⟩) h
  have hpre : res.length = m := by
    rcases r4 with r4 | r4
    · have := congrArg List.length r4.1
      rw [List.length_drop, List.length_nil] at this; omega
    · rw [List.length_drop] at r4; omega
  rw [← hpre] at hB
  exact drw_fin hG hm hB hs r2 r5 hE2 fun a' w' φ' hs' hd => by rw [hpre]; exact ht _ a' w' φ' hk hs' rfl hd
#print axioms drw_ok2
end Go.Abs
end
section
namespace Go.Abs

theorem nmRL_spl {a : Nat} {c ds : List D} {off : Nat} (h1 : nmRL a c) (h2 : nmRL a ds) : nmRL a (splD c off ds) := by
  intro d hd
  unfold splD at hd
  rcases List.mem_append.1 hd with hd | hd
  · rcases List.mem_append.1 hd with hd | hd
    · exact h1 d (List.mem_of_mem_take hd)
    · exact h2 d hd
  · exact h1 d (List.mem_of_mem_drop hd)

/-! ### The walk -/
def isCv : Op → Bool
  | .call { callee := .value _, .. } => true
  | _ => false
def ptrW (d : D) (k : Nat → Nat → Prop) : Prop := match d with | .ptr id off => k id off | _ => False
def tmpW (x : Operand) (k : Nat → Prop) : Prop := match x with | .tmp s => k s | _ => False
def dsW (d : Option Tmp) (k : Nat → Prop) : Prop := match d with | some s => k s | none => False
/-- The block was there, or was laid by the operation that fills this slot. -/
def alW (id s : Nat) : List (Nat × Nat) → Prop
  | [] => True
  | (i, t) :: r => (id = i → t = s) ∧ alW id s r
def noW (id : Nat) : List Nat → Prop
  | [] => True
  | i :: r => ¬ id = i ∧ noW id r
/-- 'own': what nobody turns here; 'dy': what is turned, or laid, as it lies now; 'al': what was laid, and by the operation of which slot; 'st': what has been stored to. -/
def drxW (G : Glob) (P : Program) (ops : List Oper) (n a : Nat) (own : List (Nat × List D)) : List Oper → Nat → List (Nat × List D) → List (Nat × Nat) → List Nat → List (Nat × D) → (Nat → List (Nat × List D) → List (Nat × D) → Prop) → Prop
  | [], nxt, dy, _, _, E, k => k nxt dy E
  | o :: rest, nxt, dy, al, st, E, k =>
    match o.op with
    | .alloc t => o.guard = none ∧ nxt < pinB ∧ dsW o.dst fun s => s < n ∧ zeroW P t fun cs => nmRL a cs ∧ drxW G P ops n a own rest (nxt + 1) ((nxt, cs) :: dy) ((nxt, s) :: al) st ((s, .ptr nxt 0) :: E) k
    | .store t p x => o.guard = none ∧ o.dst = none ∧ tmpW p fun s => lkW s E fun dp => ptrW dp fun id off => noW id st ∧ alW id s al ∧ evW G ⟨n, a, E, own⟩ x fun dx => szW P t fun sz => clW dx fun ds =>
        ds.length = sz ∧ nmRL a ds ∧ lkoW id dy fun c => off + ds.length ≤ c.length ∧ splW c off ds fun c' => soW id c' dy fun dy' => drxW G P ops n a own rest nxt dy' al (id :: st) E k
    | op => match stb op with
      | false => False
      | true => (grdW ops o.guard ⟨n, a, E, own⟩
          (fun S => rsW (rdsO op) S.env fun r => exD (fun d => ∀ (E' : List (Nat × D)) (X : List (Nat × List D)), opR G P op ⟨n, a, r ++ E', own ++ X⟩ fun x T => x = d ∧ T = ⟨n, a, r ++ E', own ++ X⟩) (fun d => nmR a d ∧ putW o.dst d S fun S => drxW G P ops n a own rest nxt dy al st S.env k) (tgd _))
          (fun S => putW o.dst (.tup []) S fun S => drxW G P ops n a own rest nxt dy al st S.env k)) ∨
        (isCv op = true ∧ o.guard = none ∧ nxt < pinB ∧ dsW o.dst fun s => s < n ∧ rsW (rdsO op) E fun r => ∃ d cs, nmRL a cs ∧ (∀ i, a ≤ i → i < pinB → i ≠ nxt → mn i d = false) ∧
          (∀ (E' : List (Nat × D)) (X : List (Nat × List D)), (∀ A, nmW nxt X A = A) → opW G P op ⟨n, nxt, r ++ E', own ++ X⟩ fun x T => x = d ∧ T = ⟨n, nxt + 1, purge nxt (r ++ E'), (nxt, cs) :: (own ++ X)⟩) ∧
          drxW G P ops n a own rest (nxt + 1) ((nxt, cs) :: dy) ((nxt, s) :: al) st ((s, d) :: E) k)
def drxA (G : Glob) (P : Program) (ops : List Oper) (n a : Nat) (own : List (Nat × List D)) (o : Oper) (rest : List Oper) (nxt : Nat) (dy : List (Nat × List D)) (al : List (Nat × Nat)) (st : List Nat) (E : List (Nat × D)) (k : Nat → List (Nat × List D) → List (Nat × D) → Prop) : Prop :=
  grdW ops o.guard ⟨n, a, E, own⟩
          (fun S => rsW (rdsO o.op) S.env fun r => exD (fun d => ∀ (E' : List (Nat × D)) (X : List (Nat × List D)), opR G P o.op ⟨n, a, r ++ E', own ++ X⟩ fun x T => x = d ∧ T = ⟨n, a, r ++ E', own ++ X⟩) (fun d => nmR a d ∧ putW o.dst d S fun S => drxW G P ops n a own rest nxt dy al st S.env k) (tgd _))
          (fun S => putW o.dst (.tup []) S fun S => drxW G P ops n a own rest nxt dy al st S.env k)
/-- What an operation that is called makes a block of its own. -/
def drxN (G : Glob) (P : Program) (ops : List Oper) (n a : Nat) (own : List (Nat × List D)) (o : Oper) (rest : List Oper) (nxt : Nat) (dy : List (Nat × List D)) (al : List (Nat × Nat)) (st : List Nat) (E : List (Nat × D)) (k : Nat → List (Nat × List D) → List (Nat × D) → Prop) : Prop :=
  o.guard = none ∧ nxt < pinB ∧ dsW o.dst fun s => s < n ∧ rsW (rdsO o.op) E fun r => ∃ d cs, nmRL a cs ∧ (∀ i, a ≤ i → i < pinB → i ≠ nxt → mn i d = false) ∧
          (∀ (E' : List (Nat × D)) (X : List (Nat × List D)), (∀ A, nmW nxt X A = A) → opW G P o.op ⟨n, nxt, r ++ E', own ++ X⟩ fun x T => x = d ∧ T = ⟨n, nxt + 1, purge nxt (r ++ E'), (nxt, cs) :: (own ++ X)⟩) ∧
          drxW G P ops n a own rest (nxt + 1) ((nxt, cs) :: dy) ((nxt, s) :: al) st ((s, d) :: E) k
theorem drxW_stb {G : Glob} {P : Program} {ops : List Oper} {n a : Nat} {own : List (Nat × List D)} {o : Oper} {rest : List Oper} {nxt : Nat} {dy : List (Nat × List D)} {al : List (Nat × Nat)} {st : List Nat} {E : List (Nat × D)} {k : Nat → List (Nat × List D) → List (Nat × D) → Prop} (h : stb o.op = true) :
    drxW G P ops n a own (o :: rest) nxt dy al st E k = (drxA G P ops n a own o rest nxt dy al st E k ∨ (isCv o.op = true ∧ drxN G P ops n a own o rest nxt dy al st E k)) := by
  rw [drxW]
  unfold drxA drxN
  cases e : o.op <;> rw [e] at h <;> first | (simp only [h]; done) | (cases h; done) | (simp only; rw [h])
theorem drxW_st {G : Glob} {P : Program} {ops : List Oper} {n a : Nat} {own : List (Nat × List D)} {o : Oper} {rest : List Oper} {nxt : Nat} {dy : List (Nat × List D)} {al : List (Nat × Nat)} {st : List Nat} {E : List (Nat × D)} {k : Nat → List (Nat × List D) → List (Nat × D) → Prop} (h : stb o.op = true) (h2 : isCv o.op = false) :
    drxW G P ops n a own (o :: rest) nxt dy al st E k = drxA G P ops n a own o rest nxt dy al st E k := by
  rw [drxW_stb h, h2]; simp

/-! ### What the blocks hold, once some operations are done -/
open Classical in
noncomputable def OL (O0 : List (Nat × List D)) (ch : List (Option (Nat × List D))) (L : Nat → Prop) : Nat → Nat → Option (List D)
  | 0, id => lk id O0
  | i + 1, id => match ch[i]? with
    | some (some (j, c)) => if j = id ∧ L i then some c else OL O0 ch L i id
    | _ => OL O0 ch L i id
section
variable {O0 : List (Nat × List D)} {ch : List (Option (Nat × List D))} {L L' : Nat → Prop}
theorem OL_none {i id : Nat} (h : ∀ c, ch[i]? ≠ some (some (id, c))) : OL O0 ch L (i + 1) id = OL O0 ch L i id := by
  rw [OL]
  split
  · rename_i j c e
    rw [if_neg]
    rintro ⟨rfl, _⟩; exact h c e
  · rfl
theorem OL_out {i id : Nat} (h : ¬ L i) : OL O0 ch L (i + 1) id = OL O0 ch L i id := by
  rw [OL]
  split
  · rw [if_neg (fun e => h e.2)]
  · rfl
theorem OL_in {i id : Nat} {c : List D} (h : ch[i]? = some (some (id, c))) (hl : L i) : OL O0 ch L (i + 1) id = some c := by
  rw [OL, h]; exact if_pos ⟨rfl, hl⟩
theorem OL_congr {id : Nat} : ∀ {m : Nat}, (∀ j c, j < m → ch[j]? = some (some (id, c)) → (L j ↔ L' j)) → OL O0 ch L m id = OL O0 ch L' m id
  | 0, _ => rfl
  | m + 1, h => by
    have ih := OL_congr (m := m) fun j c hj hc => h j c (by omega) hc
    by_cases e : ∃ c, ch[m]? = some (some (id, c))
    · obtain ⟨c, e⟩ := e
      have hm := h m c (by omega) e
      by_cases hl : L m
      · rw [OL_in e hl, OL_in e (hm.1 hl)]
      · rw [OL_out hl, OL_out (fun x => hl (hm.2 x)), ih]
    · rw [OL_none (fun c hc => e ⟨c, hc⟩), OL_none (fun c hc => e ⟨c, hc⟩), ih]
/-- Behind an operation nothing touches the block. -/
theorem OL_cut {id i : Nat} : ∀ {m : Nat}, i ≤ m → (∀ j c, i ≤ j → j < m → ch[j]? = some (some (id, c)) → ¬ L j) → OL O0 ch L m id = OL O0 ch L i id
  | 0, hi, _ => by rw [Nat.le_zero.1 hi]
  | m + 1, hi, h => by
    by_cases e : i = m + 1
    · rw [e]
    · have ih := OL_cut (m := m) (i := i) (by omega) fun j c h1 h2 hc => h j c h1 (by omega) hc
      by_cases e : ∃ c, ch[m]? = some (some (id, c))
      · obtain ⟨c, e⟩ := e
        rw [OL_out (h m c (by omega) (by omega) e), ih]
      · rw [OL_none (fun c hc => e ⟨c, hc⟩), ih]
theorem OL_ext {ch' : List (Option (Nat × List D))} (h : ch <+: ch') {id : Nat} : ∀ {i : Nat}, i ≤ ch.length → OL O0 ch L i id = OL O0 ch' L i id
  | 0, _ => rfl
  | i + 1, hi => by
    have ih := OL_ext h (id := id) (i := i) (by omega)
    have e : ch'[i]? = ch[i]? := by obtain ⟨r, rfl⟩ := h; rw [List.getElem?_append_left (by omega)]
    rw [OL, OL, e, ih]
theorem OL_nm {a : Nat} (h0 : ∀ id c, lk id O0 = some c → nmRL a c) (hc : ∀ (j id : Nat) (c : List D), ch[j]? = some (some (id, c)) → nmRL a c) : ∀ {m id : Nat} {c : List D}, OL O0 ch L m id = some c → nmRL a c
  | 0, id, c, h => h0 id c h
  | m + 1, id, c, h => by
    by_cases e : ∃ c, ch[m]? = some (some (id, c))
    · obtain ⟨c', e⟩ := e
      by_cases hl : L m
      · rw [OL_in e hl] at h; cases h; exact hc m id _ e
      · rw [OL_out hl] at h; exact OL_nm h0 hc h
    · rw [OL_none (fun c hc => e ⟨c, hc⟩)] at h; exact OL_nm h0 hc h
end

/-! ### What is known of each operation -/
section
variable (l : List Oper) (env0 : List (Nat × D))
def FX (G : Glob) (P : Program) (n a : Nat) (own O0 : List (Nat × List D)) (res : List D) (ch : List (Option (Nat × List D))) (i : Nat) : Prop :=
  ∃ o d c, l[i]? = some o ∧ res[i]? = some d ∧ ch[i]? = some c ∧ (∀ s, o.dst = some s → s < n) ∧
    ((c = none ∧ nmR a d ∧ stb o.op = true ∧ ((GO l env0 res i o true ∧ ∃ r : List (Nat × D), (∀ t d, (t, d) ∈ r → t ∈ rdsO o.op ∧ Srd l env0 res i t d) ∧
          ∀ (E' : List (Nat × D)) (X : List (Nat × List D)), opR G P o.op ⟨n, a, r ++ E', own ++ X⟩ fun x T => x = d ∧ T = ⟨n, a, r ++ E', own ++ X⟩) ∨ (GO l env0 res i o false ∧ d = .tup []))) ∨
     (∃ t s id cs, c = some (id, cs) ∧ o.op = .alloc t ∧ o.guard = none ∧ o.dst = some s ∧ d = .ptr id 0 ∧ zeroW P t (fun x => x = cs) ∧ nmRL a cs ∧ a ≤ id ∧ id < pinB ∧ ∀ j c', j < i → ch[j]? ≠ some (some (id, c'))) ∨
     (∃ s id cs r, c = some (id, cs) ∧ isCv o.op = true ∧ o.guard = none ∧ o.dst = some s ∧ nmRL a cs ∧ a ≤ id ∧ id < pinB ∧ (∀ i, a ≤ i → i < pinB → i ≠ id → mn i d = false) ∧ (∀ t d, (t, d) ∈ r → t ∈ rdsO o.op ∧ Srd l env0 res i t d) ∧
        (∀ (E' : List (Nat × D)) (X : List (Nat × List D)), (∀ A, nmW id X A = A) → opW G P o.op ⟨n, id, r ++ E', own ++ X⟩ fun x T => x = d ∧ T = ⟨n, id + 1, purge id (r ++ E'), (id, cs) :: (own ++ X)⟩) ∧ ∀ j c', j < i → ch[j]? ≠ some (some (id, c'))) ∨
     (∃ t s x id off r dx ds c0, c = some (id, splD c0 off ds) ∧ o.op = .store t (.tmp s) x ∧ o.guard = none ∧ o.dst = none ∧ Srd l env0 res i s (.ptr id off) ∧ (∀ t d, (t, d) ∈ r → t ∈ rdsO o.op ∧ Srd l env0 res i t d) ∧
        (∀ (E' : List (Nat × D)) (X : List (Nat × List D)), evW G ⟨n, a, r ++ E', X⟩ x fun d => d = dx) ∧ szW P t (fun sz => ds.length = sz) ∧ clW dx (fun x => x = ds) ∧ off + ds.length ≤ c0.length ∧ nmRL a (splD c0 off ds) ∧
        OL O0 ch (fun _ => True) i id = some c0 ∧ ∀ j c', j < i → ch[j]? = some (some (id, c')) → ∃ p, l[j]? = some p ∧ p.dst = some s))
end
variable {l : List Oper} {env0 : List (Nat × D)}
theorem constW_ex {v : Value} {k : D → Prop} (h : constW v k) : ∃ d, constW v (fun e => e = d) ∧ k d := by
  unfold constW at h ⊢
  split at h
  · exact ⟨_, rfl, h⟩
  · exact ⟨_, ⟨h.1, rfl⟩, h.2⟩
  · exact ⟨_, ⟨h.1, rfl⟩, h.2⟩
  · exact ⟨_, rfl, h⟩
  · exact ⟨_, ⟨h.1, rfl⟩, h.2⟩
  · exact ⟨_, rfl, h⟩
theorem glW_ex {g : Nat} : ∀ {G : Glob} {k : D → Prop}, glW g G k → ∃ d, glW g G (fun e => e = d) ∧ k d
  | [], _, h => ⟨_, rfl, h⟩
  | (s, cs) :: r, k, h => by
    rw [glW_cons] at h
    split at h
    · rename_i e; exact ⟨_, by rw [glW_cons, if_pos e], h⟩
    · rename_i e; obtain ⟨d, h1, h2⟩ := glW_ex h; exact ⟨d, by rw [glW_cons, if_neg e]; exact h1, h2⟩
theorem zeroW_ex {P : Program} {t : TypeId} {k : List D → Prop} (h : zeroW P t k) : ∃ cs, zeroW P t (fun x => x = cs) ∧ k cs := by
  obtain ⟨i, v, h1, h2, h3, h4⟩ := zeroW_ok h
  exact ⟨_, by unfold zeroW; rw [h1]; simp only; rw [h2]; exact ⟨h3, rfl⟩, h4⟩
theorem szW_ex {P : Program} {t : TypeId} {k : Nat → Prop} (h : szW P t k) : ∃ sz, szW P t (fun x => x = sz) ∧ k sz := by
  obtain ⟨i, h1, h2⟩ := szW_ok h
  exact ⟨_, by unfold szW; rw [h1], h2⟩
theorem clW_ex {d : D} {k : List D → Prop} (h : clW d k) : ∃ cs, clW d (fun x => x = cs) ∧ k cs := by
  cases d <;> first | exact ⟨_, rfl, h⟩ | exact h.elim
theorem alW_ok {id s : Nat} : ∀ {al : List (Nat × Nat)}, alW id s al → ∀ t, (id, t) ∈ al → t = s
  | [], _, t, h => by simp at h
  | (i, u) :: r, h, t, ht => by
    rcases List.mem_cons.1 ht with h1 | h1
    · cases h1; exact h.1 rfl
    · exact alW_ok h.2 t h1
theorem noW_ok {id : Nat} : ∀ {st : List Nat}, noW id st → id ∉ st
  | [], _ => by simp
  | i :: r, h => by
    intro hm
    rcases List.mem_cons.1 hm with h1 | h1
    · exact h.1 h1
    · exact noW_ok h.2 h1
theorem ev_r {G : Glob} {n a : Nat} {E : List (Nat × D)} {own : List (Nat × List D)} {x : Operand} {k : D → Prop} (h : evW G ⟨n, a, E, own⟩ x k) :
    ∃ dx r, k dx ∧ (∀ t d, (t, d) ∈ r → rdO x = some t ∧ lk t E = some d) ∧ ∀ (E' : List (Nat × D)) (X : List (Nat × List D)), evW G ⟨n, a, r ++ E', X⟩ x fun d => d = dx := by
  cases x with
  | tmp t =>
    obtain ⟨d, hd, hk⟩ := lkW_ok h
    refine ⟨d, [(t, d)], hk, fun s e he => ?_, fun E' X => ?_⟩
    · simp at he; obtain ⟨rfl, rfl⟩ := he; exact ⟨rfl, hd⟩
    · show lkW t _ _
      simp [lkW_cons]
  | const v =>
    obtain ⟨d, hd, hk⟩ : ∃ d, constW v (fun e => e = d) ∧ k d := constW_ex h
    exact ⟨d, [], hk, by simp, fun _ _ => hd⟩
  | global g =>
    obtain ⟨d, hd, hk⟩ : ∃ d, glW g G (fun e => e = d) ∧ k d := glW_ex h
    exact ⟨d, [], hk, by simp, fun _ _ => hd⟩
  | func f => exact ⟨_, [], h, by simp, fun _ _ => rfl⟩

structure IX (l : List Oper) (K : Nat → Prop) (a : Nat) (O0 : List (Nat × List D)) (i nxt : Nat) (dy : List (Nat × List D)) (al : List (Nat × Nat)) (st : List Nat) (ch : List (Option (Nat × List D))) : Prop where
  an : a ≤ nxt
  dyc : ∀ id c, lk id dy = some c → OL O0 ch (fun _ => True) i id = some c ∧ (id < nxt ∨ pinB ≤ id) ∧ nmRL a c
  key : ∀ id c, lk id dy = some c → K id ∨ (a ≤ id ∧ id < pinB)
  keep : ∀ id, K id → ∃ c, lk id dy = some c
  tch : ∀ (j id : Nat) (c : List D), ch[j]? = some (some (id, c)) → (∃ c', lk id dy = some c') ∧ ((∃ s p, (id, s) ∈ al ∧ l[j]? = some p ∧ p.dst = some s) ∨ id ∈ st)
theorem get_snoc {α : Type} {r : List α} {x : α} {j : Nat} {y : α} (h : (r ++ [x])[j]? = some y) : r[j]? = some y ∨ (j = r.length ∧ y = x) := by
  rw [List.getElem?_append] at h
  split at h
  · exact .inl h
  · rename_i hj
    have : j - r.length = 0 := by
      cases e : j - r.length with
      | zero => rfl
      | succ k => rw [e] at h; simp at h
    rw [this] at h
    simp at h
    exact .inr ⟨by omega, h.symm⟩
theorem drx_ext {G : Glob} {P : Program} {n a m : Nat} {own O0 : List (Nat × List D)} {k : Nat → List (Nat × List D) → List (Nat × D) → Prop} {K : Nat → Prop} (hml : m ≤ l.length) : ∀ (rest : List Oper) (i nxt : Nat) (dy : List (Nat × List D)) (al : List (Nat × Nat)) (st : List Nat) (E : List (Nat × D)) (acc : List D) (cacc : List (Option (Nat × List D))),
    acc.length = i → cacc.length = i → i ≤ m → (l.take m).drop i = rest → Coh l env0 acc i E → IX l K a O0 i nxt dy al st cacc → drxW G P l n a own rest nxt dy al st E k →
    ∃ res ch nxt' dy' al' st' E2, acc <+: res ∧ cacc <+: ch ∧ res.length = m ∧ ch.length = m ∧ (∀ j, i ≤ j → j < m → FX l env0 G P n a own O0 res ch j) ∧ Coh l env0 res m E2 ∧ IX l K a O0 m nxt' dy' al' st' ch ∧ k nxt' dy' E2
  | [], i, nxt, dy, al, st, E, acc, cacc, hl, hl2, hle, hd, hc, hx, h => by
    have hil : i = m := by
      have := congrArg List.length hd; simp at this; omega
    subst hil
    exact ⟨acc, cacc, nxt, dy, al, st, E, List.prefix_refl _, List.prefix_refl _, hl, hl2, fun j h1 h2 => by omega, hc, hx, h⟩
  | o :: rest, i, nxt, dy, al, st, E, acc, cacc, hl, hl2, hle, hd, hc, hx, h => by
    have him : i < m := by
      have := congrArg List.length hd; simp at this; omega
    have ho : l[i]? = some o := by
      have := congrArg (fun z => z[0]?) hd
      simp only [List.getElem?_drop, Nat.add_zero, List.getElem?_cons_zero] at this
      rwa [List.getElem?_take_of_lt him] at this
    have hd2 : (l.take m).drop (i + 1) = rest := by
      have := congrArg (List.drop 1) hd; simpa [List.drop_drop] using this
    have getd : ∀ {d : D} {res : List D}, acc ++ [d] <+: res → res[i]? = some d := by
      rintro d res ⟨r, rfl⟩
      rw [List.append_assoc, List.getElem?_append_right (by omega), hl]; simp
    have getc : ∀ {c : Option (Nat × List D)} {ch : List (Option (Nat × List D))}, cacc ++ [c] <+: ch → ch[i]? = some c := by
      rintro d res ⟨r, rfl⟩
      rw [List.append_assoc, List.getElem?_append_right (by omega), hl2]; simp
    have pre : ∀ {d : D} {res : List D}, acc ++ [d] <+: res → acc <+: res := fun h => (List.prefix_append _ _).trans h
    have prec : ∀ {c : Option (Nat × List D)} {ch : List (Option (Nat × List D))}, cacc ++ [c] <+: ch → cacc <+: ch := fun h => (List.prefix_append _ _).trans h
    -- what remains, once the operation's data are known
    have go : ∀ (d : D) (c : Option (Nat × List D)) (E1 : List (Nat × D)) (nxt1 : Nat) (dy1 : List (Nat × List D)) (al1 : List (Nat × Nat)) (st1 : List Nat), Coh l env0 (acc ++ [d]) (i + 1) E1 → IX l K a O0 (i + 1) nxt1 dy1 al1 st1 (cacc ++ [c]) → drxW G P l n a own rest nxt1 dy1 al1 st1 E1 k →
        (∀ res ch, acc ++ [d] <+: res → cacc ++ [c] <+: ch → FX l env0 G P n a own O0 res ch i) →
        ∃ res ch nxt' dy' al' st' E2, acc <+: res ∧ cacc <+: ch ∧ res.length = m ∧ ch.length = m ∧ (∀ j, i ≤ j → j < m → FX l env0 G P n a own O0 res ch j) ∧ Coh l env0 res m E2 ∧ IX l K a O0 m nxt' dy' al' st' ch ∧ k nxt' dy' E2 := by
      intro d c E1 nxt1 dy1 al1 st1 h1 h2 h3 h4
      obtain ⟨res, ch, nxt', dy', al', st', E2, r1, r2, r3, r4, r5, r6, r7, r8⟩ := drx_ext hml rest (i + 1) nxt1 dy1 al1 st1 E1 (acc ++ [d]) (cacc ++ [c]) (by simp [hl]) (by simp [hl2]) (by omega) hd2 h1 h2 h3
      refine ⟨res, ch, nxt', dy', al', st', E2, pre r1, prec r2, r3, r4, fun j h1 h2 => ?_, r6, r7, r8⟩
      by_cases e : j = i
      · subst e; exact h4 res ch r1 r2
      · exact r5 j (by omega) h2
    -- a block is new
    have newIX : ∀ {s : Nat} {cs : List D}, o.dst = some s → nxt < pinB → nmRL a cs → (∀ (j : Nat) (c' : List D), cacc[j]? ≠ some (some (nxt, c'))) ∧ IX l K a O0 (i + 1) (nxt + 1) ((nxt, cs) :: dy) ((nxt, s) :: al) st (cacc ++ [some (nxt, cs)]) ∧
        ∀ ch, cacc <+: ch → ∀ j c', j < i → ch[j]? ≠ some (some (nxt, c')) := by
      intro s cs hdst hp hnm
      have hnew : ∀ (j : Nat) (c' : List D), cacc[j]? ≠ some (some (nxt, c')) := by
        intro j c' hj
        obtain ⟨⟨c2, hc2⟩, _⟩ := hx.tch j nxt c' hj
        have := (hx.dyc nxt c2 hc2).2.1
        omega
      refine ⟨hnew, ?_, fun ch hpc j c' hj hch => ?_⟩
      rotate_left 1
      · have e : ch[j]? = cacc[j]? := by obtain ⟨r, rfl⟩ := hpc; rw [List.getElem?_append_left (by omega)]
        rw [e] at hch
        exact hnew j c' hch
      · refine ⟨by have := hx.an; omega, fun id c hcc => ?_, fun id c hcc => ?_, fun id hk => ?_, fun j id c hcc => ?_⟩
        rotate_left 1
        · simp only [lk] at hcc
          split at hcc
          · rename_i e; subst e; exact .inr ⟨hx.an, hp⟩
          · exact hx.key id c hcc
        · obtain ⟨c, h1⟩ := hx.keep id hk
          simp only [lk]; split
          · exact ⟨_, rfl⟩
          · exact ⟨c, h1⟩
        rotate_left 1
        · simp only [lk] at hcc
          split at hcc
          · rename_i e; cases hcc; subst e
            exact ⟨OL_in (by rw [List.getElem?_append_right (by omega), hl2]; simp) trivial, .inl (by omega), hnm⟩
          · rename_i e
            obtain ⟨h1, h2, h3⟩ := hx.dyc id c hcc
            refine ⟨?_, h2.imp (by omega) _root_.id, h3⟩
            rw [OL_none (fun c hc => by rcases get_snoc hc with h | ⟨_, h⟩; · rw [List.getElem?_eq_none (by omega)] at h; cases h
                                        · cases h; exact e rfl)]
            rw [← OL_ext (List.prefix_append cacc _) (by omega)]; exact h1
        · rcases get_snoc hcc with h | ⟨hj, h⟩
          · obtain ⟨⟨c2, h1⟩, h2⟩ := hx.tch j id c h
            refine ⟨?_, h2.imp (fun ⟨u, p, q1, q2, q3⟩ => ⟨u, p, by simp [q1], q2, q3⟩) _root_.id⟩
            simp only [lk]; split
            · exact ⟨_, rfl⟩
            · exact ⟨c2, h1⟩
          · cases h
            exact ⟨⟨cs, by simp [lk]⟩, .inl ⟨s, o, by simp, by rw [hj, hl2]; exact ho, hdst⟩⟩
    -- an operation that turns nothing
    have quietIX : IX l K a O0 (i + 1) nxt dy al st (cacc ++ [none]) := by
      refine ⟨hx.an, fun id c hc => ?_, hx.key, hx.keep, fun j id c hc => ?_⟩
      · obtain ⟨h1, h2⟩ := hx.dyc id c hc
        refine ⟨?_, h2⟩
        rw [OL_none (fun c hc => by rcases get_snoc hc with h | ⟨_, h⟩; · rw [List.getElem?_eq_none (by omega)] at h; cases h
                                    · cases h)]
        rw [← OL_ext (List.prefix_append cacc [none]) (by omega)]; exact h1
      · rcases get_snoc hc with h | ⟨_, h⟩
        · exact hx.tch j id c h
        · cases h
    have still : stb o.op = true → ∃ res ch nxt' dy' al' st' E2, acc <+: res ∧ cacc <+: ch ∧ res.length = m ∧ ch.length = m ∧ (∀ j, i ≤ j → j < m → FX l env0 G P n a own O0 res ch j) ∧ Coh l env0 res m E2 ∧ IX l K a O0 m nxt' dy' al' st' ch ∧ k nxt' dy' E2 := by
      intro hst
      rw [drxW_stb hst] at h
      rcases h with h | ⟨hcv, h⟩
      rotate_left 1
      · -- a block is made by a callee
        obtain ⟨hg, hp, h⟩ := h
        cases hdst : o.dst with
        | none => rw [hdst] at h; exact h.elim
        | some s =>
          rw [hdst] at h
          obtain ⟨hsn, h⟩ := h
          obtain ⟨r, ⟨d, cs, hnm, hdm, hop, h⟩, hrr⟩ := rsW_ok h
          obtain ⟨hnew, hA, hB⟩ := newIX (s := s) (cs := cs) hdst hp hnm
          refine go d (some (nxt, cs)) ((s, d) :: E) (nxt + 1) ((nxt, cs) :: dy) ((nxt, s) :: al) st ?_ hA h fun res ch hp1 hp2 => ?_
          · have := hc.step (d := d) hl ho
            rw [hdst] at this; exact this
          · exact ⟨o, d, some (nxt, cs), ho, getd hp1, getc hp2, (fun s' h => by rw [hdst] at h; cases h; exact hsn), .inr (.inr (.inl ⟨s, nxt, cs, r, rfl, hcv, hg, hdst, hnm, hx.an, hp, hdm, fun t e he => ⟨(hrr t e he).1, (Srd.ext (pre hp1) (by omega)).1 (hc t e (hrr t e he).2)⟩, hop, hB ch (prec hp2)⟩))⟩
      unfold drxA at h
      have wanted : ∀ (E' : List (Nat × D)), Coh l env0 acc i E' → GO l env0 acc i o true →
          (rsW (rdsO o.op) E' fun r => exD (fun d => ∀ (E'' : List (Nat × D)) (X : List (Nat × List D)), opR G P o.op ⟨n, a, r ++ E'', own ++ X⟩ fun x T => x = d ∧ T = ⟨n, a, r ++ E'', own ++ X⟩) (fun d => nmR a d ∧ putW o.dst d ⟨n, a, E', own⟩ fun S => drxW G P l n a own rest nxt dy al st S.env k) (tgd _)) →
          ∃ res ch nxt' dy' al' st' E2, acc <+: res ∧ cacc <+: ch ∧ res.length = m ∧ ch.length = m ∧ (∀ j, i ≤ j → j < m → FX l env0 G P n a own O0 res ch j) ∧ Coh l env0 res m E2 ∧ IX l K a O0 m nxt' dy' al' st' ch ∧ k nxt' dy' E2 := by
        intro E' hc' hgo hr
        obtain ⟨r, ⟨d, hop, hnm, hk⟩, hrr⟩ := rsW_ok hr
        have : (∀ s, o.dst = some s → s < n) ∧ drxW G P l n a own rest nxt dy al st (match o.dst with | none => E' | some s => (s, d) :: E') k := by
          cases hdst : o.dst with
          | none => rw [hdst] at hk; exact ⟨(fun s hs => by cases hs), hk⟩
          | some s => rw [hdst] at hk; exact ⟨fun s' hs => by cases hs; exact hk.1, hk.2⟩
        refine go d none _ nxt dy al st (hc'.step (d := d) hl ho) quietIX this.2 fun res ch hp hp2 => ?_
        exact ⟨o, d, none, ho, getd hp, getc hp2, this.1, .inl ⟨rfl, hnm, hst, .inl ⟨hgo.ext (pre hp) (by omega), r, fun t e he => ⟨(hrr t e he).1, (Srd.ext (pre hp) (by omega)).1 (hc' t e (hrr t e he).2)⟩, hop⟩⟩⟩
      have skipped : ∀ (E' : List (Nat × D)), Coh l env0 acc i E' → GO l env0 acc i o false → (putW o.dst (.tup []) ⟨n, a, E', own⟩ fun S => drxW G P l n a own rest nxt dy al st S.env k) →
          ∃ res ch nxt' dy' al' st' E2, acc <+: res ∧ cacc <+: ch ∧ res.length = m ∧ ch.length = m ∧ (∀ j, i ≤ j → j < m → FX l env0 G P n a own O0 res ch j) ∧ Coh l env0 res m E2 ∧ IX l K a O0 m nxt' dy' al' st' ch ∧ k nxt' dy' E2 := by
        intro E' hc' hgo hk
        have : (∀ s, o.dst = some s → s < n) ∧ drxW G P l n a own rest nxt dy al st (match o.dst with | none => E' | some s => (s, .tup []) :: E') k := by
          cases hdst : o.dst with
          | none => rw [hdst] at hk; exact ⟨(fun s hs => by cases hs), hk⟩
          | some s => rw [hdst] at hk; exact ⟨fun s' hs => by cases hs; exact hk.1, hk.2⟩
        refine go (.tup []) none _ nxt dy al st (hc'.step (d := .tup []) hl ho) quietIX this.2 fun res ch hp hp2 => ?_
        exact ⟨o, .tup [], none, ho, getd hp, getc hp2, this.1, .inl ⟨rfl, fun _ _ _ => rfl, hst, .inr ⟨hgo.ext (pre hp) (by omega), rfl⟩⟩⟩
      unfold grdW at h
      split at h
      · rename_i hg
        exact wanted E hc (by unfold GO; rw [hg]) h
      · rename_i g want hg
        obtain ⟨s, hs2, h⟩ := dstW_ok h
        obtain ⟨og, hog, hogd⟩ : ∃ og, l[g]? = some og ∧ og.dst = some s := by
          cases hx : l[g]? with
          | none => rw [hx] at hs2; cases hs2
          | some og => rw [hx] at hs2; exact ⟨og, rfl, hs2⟩
        obtain ⟨dg, hdg, h⟩ := lkW_ok h
        have hsrc := hc s dg hdg
        have hcons : ∀ b : Bool, dg = .bool b → Coh l env0 acc i ((s, .bool b) :: E) := by
          intro b hb t e he
          simp only [lk] at he
          split at he
          · rename_i e1; cases he; subst e1; rw [← hb]; exact hsrc
          · exact hc t e he
        split at h
        · rename_i c
          by_cases e : c = want
          · exact wanted _ (hcons want (by rw [e])) (by unfold GO; rw [hg]; exact ⟨og, s, hog, hogd, .inl ⟨c, hsrc, by simp [e]⟩⟩) (h.1 e)
          · have e2 : (!want) = c := by cases c <;> cases want <;> simp_all
            exact skipped _ (hcons (!want) (by rw [e2])) (by unfold GO; rw [hg]; exact ⟨og, s, hog, hogd, .inl ⟨c, hsrc, by simp [e]⟩⟩) (h.2 e)
        · exact skipped E hc (by unfold GO; rw [hg]; exact ⟨og, s, hog, hogd, .inr ⟨hsrc, rfl⟩⟩) h
        · exact h.elim
    by_cases hst : stb o.op = true
    · exact still hst
    rw [drxW] at h
    split at h
    · -- a variable is laid
      rename_i t hop
      obtain ⟨hg, hp, h⟩ := h
      cases hdst : o.dst with
      | none => rw [hdst] at h; exact h.elim
      | some s =>
        rw [hdst] at h
        obtain ⟨hsn, h⟩ := h
        obtain ⟨cs, hz, hnm, h⟩ := zeroW_ex h
        obtain ⟨hnew, hA, hB⟩ := newIX (s := s) (cs := cs) hdst hp hnm
        refine go (.ptr nxt 0) (some (nxt, cs)) ((s, .ptr nxt 0) :: E) (nxt + 1) ((nxt, cs) :: dy) ((nxt, s) :: al) st ?_ hA h fun res ch hp1 hp2 => ?_
        · have := hc.step (d := .ptr nxt 0) hl ho
          rw [hdst] at this; exact this
        · exact ⟨o, .ptr nxt 0, some (nxt, cs), ho, getd hp1, getc hp2, (fun s' h => by rw [hdst] at h; cases h; exact hsn), .inr (.inl ⟨t, s, nxt, cs, rfl, hop, hg, hdst, rfl, hz, hnm, hx.an, hp, hB ch (prec hp2)⟩)⟩
    · -- a variable is stored to
      rename_i t p x hop
      obtain ⟨hg, hdst, h⟩ := h
      cases p with
      | tmp s =>
        obtain ⟨dp, hdp, h⟩ := lkW_ok h
        cases dp with
        | ptr id off =>
          obtain ⟨hno, hal, h⟩ := h
          obtain ⟨dx, r, h, hr, hev⟩ := ev_r h
          obtain ⟨sz, hsz, h⟩ := szW_ex h
          obtain ⟨ds, hcl, hds, hnm, h⟩ := clW_ex h
          obtain ⟨c0, hc0, hfit, h⟩ := lkoW_ok h
          obtain ⟨o1, o2, o3⟩ := hx.dyc id c0 hc0
          have hspl : nmRL a (splD c0 off ds) := nmRL_spl o3 hnm
          refine go .any (some (id, splD c0 off ds)) E nxt (setO id (splD c0 off ds) dy) al (id :: st) ?_ ?_ h fun res ch hp1 hp2 => ?_
          · have := hc.step (d := .any) hl ho
            rw [hdst] at this; exact this
          · refine ⟨hx.an, fun id2 c hcc => ?_, fun id2 c hcc => ?_, fun id2 hk => ?_, fun j id2 c hcc => ?_⟩
            rotate_left 1
            · by_cases e : id2 = id
              · subst e; exact hx.key id2 c0 hc0
              · rw [lk_setO_other e] at hcc; exact hx.key id2 c hcc
            · obtain ⟨c, h1⟩ := hx.keep id2 hk
              by_cases e : id2 = id
              · subst e; exact ⟨_, lk_setO_same h1⟩
              · exact ⟨c, by rw [lk_setO_other e]; exact h1⟩
            rotate_left 1
            · by_cases e : id2 = id
              · subst e
                rw [lk_setO_same hc0] at hcc; cases hcc
                exact ⟨OL_in (by rw [List.getElem?_append_right (by omega), hl2]; simp) trivial, o2, hspl⟩
              · rw [lk_setO_other e] at hcc
                obtain ⟨h1, h2, h3⟩ := hx.dyc id2 c hcc
                refine ⟨?_, h2, h3⟩
                rw [OL_none (fun c hc => by rcases get_snoc hc with h | ⟨_, h⟩; · rw [List.getElem?_eq_none (by omega)] at h; cases h
                                            · cases h; exact e rfl)]
                rw [← OL_ext (List.prefix_append cacc _) (by omega)]; exact h1
            · have ex : ∀ c2, lk id2 dy = some c2 → ∃ c', lk id2 (setO id (splD c0 off ds) dy) = some c' := by
                intro c2 h2
                by_cases e : id2 = id
                · subst e; exact ⟨_, lk_setO_same h2⟩
                · exact ⟨c2, by rw [lk_setO_other e]; exact h2⟩
              rcases get_snoc hcc with h | ⟨hj, h⟩
              · obtain ⟨⟨c2, h1⟩, h2⟩ := hx.tch j id2 c h
                exact ⟨ex c2 h1, h2.imp _root_.id fun h => by simp [h]⟩
              · cases h
                exact ⟨ex c0 hc0, .inr (by simp)⟩
          · refine ⟨o, .any, some (id, splD c0 off ds), ho, getd hp1, getc hp2, (fun s' h => by rw [hdst] at h; cases h), .inr (.inr (.inr ⟨t, s, x, id, off, r, dx, ds, c0, rfl, hop, hg, hdst, (Srd.ext (pre hp1) (by omega)).1 (hc s _ hdp), fun u e he => ?_, hev, ?_, hcl, hfit, hspl, ?_, fun j c' hj hch => ?_⟩))⟩
            · refine ⟨?_, (Srd.ext (pre hp1) (by omega)).1 (hc u e (hr u e he).2)⟩
              rw [hop]
              have := (hr u e he).1
              cases x with
              | tmp v => simp [rdO] at this; subst this; simp [rdsO, Op.operands, rdO]
              | _ => simp [rdO] at this
            · obtain ⟨ii, h1, h2⟩ := szW_ok hsz
              unfold szW; rw [h1]; simp only; rw [h2]; exact hds
            · rw [← OL_ext (prec hp2) (by omega)]; exact o1
            · have e : ch[j]? = cacc[j]? := by obtain ⟨r, rfl⟩ := prec hp2; rw [List.getElem?_append_left (by omega)]
              rw [e] at hch
              obtain ⟨_, ⟨u, p, q1, q2, q3⟩ | q⟩ := hx.tch j id c' hch
              · exact ⟨p, q2, by rw [q3, alW_ok hal u q1]⟩
              · exact absurd q (noW_ok hno)
        | _ => exact h.elim
      | _ => exact h.elim
    · split at h
      · exact h.elim
      · rename_i h1; exact absurd h1 hst
end Go.Abs
end
section
namespace Go.Abs
theorem lk_purge_mk {id s : Nat} : ∀ {env : List (Nat × D)} {d : D}, lk s env = some d → mn id d = false → lk s (purge id env) = some d
  | [], d, h, _ => by simp [lk] at h
  | (t, e) :: r, d, h, hm => by
    simp only [lk] at h
    by_cases e1 : s = t
    · rw [if_pos e1] at h; cases h
      simp only [purge, List.map_cons, lk]
      rw [if_pos e1, if_neg (by rw [hm]; simp)]
    · rw [if_neg e1] at h
      have ih := lk_purge_mk (id := id) h hm
      simp only [purge, List.map_cons, lk] at ih ⊢
      rw [if_neg e1]; exact ih
section
variable {G : Glob} {P : Program} {w0 : Bas} {n a : Nat} {own O0 : List (Nat × List D)} {Q : Exit → Act → World → Prop} {df : List Deferred} {res : List D} {ch : List (Option (Nat × List D))} {m : Nat} {l : List Oper} {env0 : List (Nat × D)} {r : Option Nat} {N : Nat}
def InvX (r : Option Nat) (N : Nat) (w0 : Bas) (P : Program) (n a : Nat) (O0 : List (Nat × List D)) (Q : Exit → Act → World → Prop) (df : List Deferred) (l : List Oper) (env0 : List (Nat × D)) (res : List D) (ch : List (Option (Nat × List D))) (m : Nat) (L : Array Bool) (t : Act) (w : World) : Prop :=
  ((∀ j, m ≤ j → ¬ Lst L j) ∧ t.defers = df ∧ ∃ φ O, (∀ id, lk id O = OL O0 ch (Lst L) m id) ∧ SatC w0 φ ⟨n, a, [], O⟩ t.tmps w ∧ ∀ s d, eL l env0 res m L s d → ∃ v, t.tmps[s]? = some v ∧ Rep φ w (FSx φ O w) v d) ∨
  ∃ j0, m ≤ j0 ∧ (∀ j, j < j0 → j < l.length → Lst L j) ∧ (∀ j, j0 ≤ j → ¬ Lst L j) ∧ wpListIn (fw r) N P l.toArray Q (l.drop j0) t w

theorem FX.later (hB : DrwB l m) (hf : ∀ j, j < m → FX l env0 G P n a own O0 res ch j) {L : Array Bool} (hc : Closed l L) {i id : Nat} {c : List D} (hi : ch[i]? = some (some (id, c))) (him : i < m) (hL : ¬ Lst L i) :
    ∀ j c', i ≤ j → j < m → ch[j]? = some (some (id, c')) → ¬ Lst L j := by
  intro j c' hij hjm hj hl
  by_cases e : j = i
  · subst e; exact hL hl
  obtain ⟨o, d, c2, ho, _, hc2, _, h | h | h | h⟩ := hf j hjm
  · rw [h.1, hj] at hc2; cases hc2
  · obtain ⟨t, s, id', cs, rfl, _, _, _, _, _, _, _, _, hno⟩ := h
    rw [hj] at hc2; cases hc2
    exact hno i c (by omega) hi
  · obtain ⟨s, id', cs, r, rfl, _, _, _, _, _, _, _, _, _, hno⟩ := h
    rw [hj] at hc2; cases hc2
    exact hno i c (by omega) hi
  · obtain ⟨t, s, x, id', off, r, dx, ds, c0, rfl, hop, _, _, _, _, _, _, _, _, _, _, hpre⟩ := h
    rw [hj] at hc2
    obtain rfl : id = id' := by cases hc2; rfl
    obtain ⟨p, hp, hpd⟩ := hpre i c (by omega) hi
    have := hB.reads _ (mem_zip (by rw [List.getElem?_take_of_lt hjm]; exact ho)) s (by simp [hop, rdsO, Op.operands, rdO]) _ (mem_zip (by rw [List.getElem?_take_of_lt him]; exact hp)) hpd
    obtain ⟨e, he, hb⟩ := List.any_eq_true.1 this.2
    simp only [Bool.and_eq_true, beq_iff_eq] at hb
    have := hc j o ho hl e he hb.1
    rw [hb.2] at this
    exact hL this

theorem drx_run (hG : GOk G w0) (hB : DrwB l m) (hml : m ≤ l.length) (hcm : ch.length = m) (hf : ∀ j, j < m → FX l env0 G P n a own O0 res ch j)
    (h0 : ∀ id c, lk id O0 = some c → nmRL a c) (he0 : ∀ t d, lk t env0 = some d → nmR a d) (hown : ∀ id c, lk id own = some c → lk id O0 = some c ∧ ∀ (j : Nat) (c' : List D), j < m → ch[j]? ≠ some (some (id, c')))
    (E2 : List (Nat × D)) (hE2 : Coh l env0 res m E2) (tailOk : ∀ (t : Act) (w : World) (φ : Loc) (O : List (Nat × List D)), t.defers = df → (∀ id, lk id O = OL O0 ch (fun _ => True) m id) → SatC w0 φ ⟨n, a, E2, O⟩ t.tmps w → wpListIn (fw r) N P l.toArray Q (l.drop m) t w) :
    ∀ (fuel : Nat) (L : Array Bool) (t : Act) (w : World), InvC l L → unl L ≤ fuel → InvX r N w0 P n a O0 Q df l env0 res ch m L t w → wpAnyIn (fw r) N P .any l.toArray Q fuel L t w := by
  have chnm : ∀ (j id : Nat) (c : List D), ch[j]? = some (some (id, c)) → nmRL a c := by
    intro j id c hj
    have hjm : j < m := by have := (List.getElem?_eq_some_iff.1 hj).1; omega
    obtain ⟨o, d, c2, _, _, hc2, _, h | h | h | h⟩ := hf j hjm
    · rw [h.1, hj] at hc2; cases hc2
    · obtain ⟨_, _, id', cs, rfl, _, _, _, _, _, hn, _⟩ := h
      rw [hj] at hc2; cases hc2; exact hn
    · obtain ⟨_, id', cs, _, rfl, _, _, _, hn, _⟩ := h
      rw [hj] at hc2; cases hc2; exact hn
    · obtain ⟨_, _, _, id', off, _, _, ds, c0, rfl, _, _, _, _, _, _, _, _, _, hn, _⟩ := h
      rw [hj] at hc2; cases hc2; exact hn
  have toTail : ∀ {L : Array Bool} {t : Act} {w : World}, (∀ j, j < m → Lst L j) → InvX r N w0 P n a O0 Q df l env0 res ch m L t w → ∃ j0, m ≤ j0 ∧ (∀ j, j < j0 → j < l.length → Lst L j) ∧ (∀ j, j0 ≤ j → ¬ Lst L j) ∧ wpListIn (fw r) N P l.toArray Q (l.drop j0) t w := by
    intro L t w hall h
    rcases h with ⟨h1, hd, φ, O, hO, hs, he⟩ | h
    · refine ⟨m, Nat.le_refl _, fun j hj _ => hall j hj, h1, tailOk t w φ O hd (fun id => by rw [hO]; exact OL_congr fun j c hj _ => ⟨fun _ => trivial, fun _ => hall j hj⟩) ⟨hs.below, hs.size, hs.own, hs.inj, fun s d hd => he s d ?_, hs.base, hs.pin⟩⟩
      rcases hE2 s d hd with ⟨j, o, q1, q2, q3, q4⟩ | ⟨q1, q2⟩
      · exact .inl ⟨j, o, q1, hall j q1, q2, q3, q4⟩
      · exact .inr ⟨fun j o hj _ hl => q1 j o hj hl, q2⟩
    · exact h
  have finish : ∀ {L : Array Bool} {t : Act} {w : World}, InvC l L → Region.ready .any l.toArray L = [] → InvX r N w0 P n a O0 Q df l env0 res ch m L t w → Q .normal t w := by
    intro L t w hI hr h
    have hall := all_listed hB hI.size hr
    obtain ⟨j0, h1, h2, h3, h4⟩ := toTail (fun j hj => hall j (by omega)) h
    have : l.length ≤ j0 := by
      rcases Nat.lt_or_ge j0 l.length with h | h
      · exact absurd (hall j0 h) (h3 j0 (Nat.le_refl _))
      · exact h
    rw [List.drop_of_length_le this] at h4
    exact h4
  intro fuel
  induction fuel with
  | zero =>
    intro L t w hI hu h
    have hr : Region.ready .any l.toArray L = [] := by
      rw [List.eq_nil_iff_forall_not_mem]
      intro j hj
      have := unl_set (mem_ready.1 hj).1
      omega
    exact ⟨hr, finish hI hr h⟩
  | succ fuel ih =>
    intro L t w hI hu h
    refine ⟨fun hr => finish hI hr h, fun i hi => ?_⟩
    obtain ⟨hun, o, ho, hp⟩ := mem_ready.1 hi
    have ho' : l[i]? = some o := by simpa using ho
    have hil : i < l.length := (List.getElem?_eq_some_iff.1 ho').1
    have hp' : ∀ e ∈ o.after.toList, Region.binds .any e = true → Lst L e.on := fun e he hb => hp e (by simpa using he) hb
    have hnl := lst_false hun
    have hisz : i < L.size := by rw [hI.size]; exact hil
    have hI' : InvC l (L.setIfInBounds i true) := by
      refine ⟨by simp [hI.size], fun j p hj hl e he hb => ?_⟩
      rw [lst_set hisz] at hl ⊢
      rcases hl with rfl | hl
      · rw [ho'] at hj; cases hj; exact .inr (hp' e he hb)
      · exact .inr (hI.closed j p hj hl e he hb)
    have hu' : unl (L.setIfInBounds i true) ≤ fuel := by have := unl_set hun; omega
    unfold wpOpIn
    rw [ho]
    simp only
    by_cases him : m ≤ i
    · -- the tail
      have hall := tail_all hB hI.closed ho' him hp'
      obtain ⟨j0, h1, h2, h3, h4⟩ := toTail (fun j hj => hall j (by omega)) h
      obtain rfl : j0 = i := by
        rcases Nat.lt_trichotomy j0 i with hlt | he | hgt
        · exact absurd (hall j0 hlt) (h3 j0 (Nat.le_refl _))
        · exact he
        · exact absurd (h2 i hgt hil) hnl
      rw [List.drop_eq_getElem_cons hil] at h4
      have hoe : l[j0] = o := by rw [List.getElem?_eq_getElem hil] at ho'; exact Option.some.inj ho'
      rw [hoe] at h4
      unfold wpListIn at h4
      have next : ∀ a' w', wpListIn (fw r) N P l.toArray Q (l.drop (j0 + 1)) a' w' → wpAnyIn (fw r) N P .any l.toArray Q fuel (L.setIfInBounds j0 true) a' w' := by
        intro a' w' hw
        refine ih _ a' w' hI' hu' (.inr ⟨j0 + 1, by omega, fun j hj hjl => ?_, fun j hj hl => ?_, hw⟩)
        · rw [lst_set hisz]
          by_cases e : j = j0
          · exact .inl e
          · exact .inr (hall j (by omega))
        · rw [lst_set hisz] at hl
          rcases hl with e | hl
          · omega
          · exact h3 j (by omega) hl
      split at h4
      · rename_i hw; rw [if_pos hw]; exact Oper.wpIn_mono next h4
      · rename_i hw; rw [if_neg hw]; exact ⟨h4.1, next _ _ h4.2⟩
    · -- the head
      have him : i < m := by omega
      have hA : (∀ j, m ≤ j → ¬ Lst L j) ∧ t.defers = df ∧ ∃ φ O, (∀ id, lk id O = OL O0 ch (Lst L) m id) ∧ SatC w0 φ ⟨n, a, [], O⟩ t.tmps w ∧ ∀ s d, eL l env0 res m L s d → ∃ v, t.tmps[s]? = some v ∧ Rep φ w (FSx φ O w) v d := by
        rcases h with h | ⟨j0, h1, h2, _⟩
        · exact h
        · exact absurd (h2 i (by omega) hil) hnl
      obtain ⟨hA1, hAd, φ, O, hO, hs, he⟩ := hA
      obtain ⟨o2, d, c, ho2, hres, hch, hdst, hfact⟩ := hf i him
      rw [ho'] at ho2; cases ho2
      -- what an operation reads is known
      have rd : ∀ {s d}, s ∈ rdsO o.op ++ (grdSlot l o).toList → Srd l env0 res i s d → ∃ v, t.tmps[s]? = some v ∧ Rep φ w (FSx φ O w) v d := fun ht h => he _ _ (h.eL hB him ho' ht hp')
      -- what the blocks hold behind it
      have same : c = none → ∀ id, OL O0 ch (Lst (L.setIfInBounds i true)) m id = OL O0 ch (Lst L) m id := by
        rintro rfl id
        refine OL_congr fun j c hj hc => ?_
        rw [lst_set hisz]
        exact ⟨fun h => h.resolve_left (fun e => by subst e; rw [hc] at hch; cases hch), .inr⟩
      have turned : ∀ {id : Nat} {cs : List D}, c = some (id, cs) → ∀ id', OL O0 ch (Lst (L.setIfInBounds i true)) m id' = if id' = id then some cs else OL O0 ch (Lst L) m id' := by
        rintro id cs rfl id'
        split
        · rename_i e; subst e
          rw [OL_cut (i := i + 1) (by omega) (fun j c' h1 h2 hc hl => ?_)]
          · exact OL_in hch ((lst_set hisz).2 (.inl rfl))
          · rcases (lst_set hisz).1 hl with e | hl
            · omega
            · exact FX.later hB hf hI.closed hch him hnl j c' (by omega) h2 hc hl
        · rename_i e
          refine OL_congr fun j c hj hc => ?_
          rw [lst_set hisz]
          exact ⟨fun h => h.resolve_left (fun e2 => by subst e2; rw [hc] at hch; cases hch; exact e rfl), .inr⟩
      -- the state behind it
      have step : ∀ {a' : Act} {w' : World} {φ' : Loc} {O' : List (Nat × List D)} {v : Value}, a' = t.put o.dst v → (∀ id, lk id O' = OL O0 ch (Lst (L.setIfInBounds i true)) m id) → SatC w0 φ' ⟨n, a, [], O'⟩ t.tmps w' → (∀ s d, eL l env0 res m L s d → ∃ v, t.tmps[s]? = some v ∧ Rep φ' w' (FSx φ' O' w') v d) → (∀ s, o.dst = some s → Rep φ' w' (FSx φ' O' w') v d) →
          wpAnyIn (fw r) N P .any l.toArray Q fuel (L.setIfInBounds i true) a' w' := by
        rintro a' w' φ' O' v rfl hO' hs' he' hr
        have hsz : t.tmps.size = n := hs'.size
        refine ih _ _ w' hI' hu' (.inl ⟨fun j hj hl => ?_, by rw [put_defers]; exact hAd, φ', O', hO', ?_, fun s e hte => ?_⟩)
        · rw [lst_set hisz] at hl
          rcases hl with h | h
          · omega
          · exact hA1 j hj h
        · cases hd : o.dst with
          | none => exact hs'
          | some s => exact ⟨hs'.below, by simp [Act.put, hsz], hs'.own, hs'.inj, fun s d hd => by simp [lk] at hd, hs'.base, hs'.pin⟩
        · have old : o.dst ≠ some s → eL l env0 res m L s e → ∃ v', (t.put o.dst v).tmps[s]? = some v' ∧ Rep φ' w' (FSx φ' O' w') v' e := by
            intro hne hx
            obtain ⟨u, hu1, hu2⟩ := he' s e hx
            refine ⟨u, ?_, hu2⟩
            cases hd : o.dst with
            | none => exact hu1
            | some s' =>
              have : s' ≠ s := fun h => hne (by rw [hd, h])
              simp only [Act.put]
              rw [Array.getElem?_setIfInBounds_ne this]; exact hu1
          have new : o.dst = some s → e = d → ∃ v', (t.put o.dst v).tmps[s]? = some v' ∧ Rep φ' w' (FSx φ' O' w') v' e := by
            intro hd hed
            subst hed
            rw [hd]
            exact ⟨v, by simp only [Act.put]; rw [Array.getElem?_setIfInBounds_self_of_lt (by rw [hsz]; exact hdst s hd)], hr s hd⟩
          rcases hte with ⟨j, p, q1, q2, q3, q4, q5⟩ | ⟨q1, q2⟩
          · rw [lst_set hisz] at q2
            by_cases hji : j = i
            · subst hji
              rw [ho'] at q3; cases q3
              exact new q4 (Option.some.inj (q5.symm.trans hres))
            · have q2 : Lst L j := q2.resolve_left hji
              exact old (fun hd => hji (nodup_dst hB.nodup q1 him q3 ho' q4 hd)) (.inl ⟨j, p, q1, q2, q3, q4, q5⟩)
          · exact old (q1 i o him (by rw [lst_set hisz]; exact .inl rfl) ho') (.inr ⟨fun j p hj hl hp => q1 j p hj (by rw [lst_set hisz]; exact .inr hl) hp, q2⟩)
      have lt : ∀ {s e}, eL l env0 res m L s e → s < n := by
        intro s e hx
        obtain ⟨u, hu1, _⟩ := he s e hx
        have := (Array.getElem?_eq_some_iff.1 hu1).1
        have h2 : t.tmps.size = n := hs.size
        omega
      have lkE : ∀ {s e}, eL l env0 res m L s e → lk s (EnvOf n (eL l env0 res m L)) = some e := by
        intro s e hx
        rw [lk_EnvOf, if_pos (lt hx)]
        have hex : ∃ d, eL l env0 res m L s d := ⟨e, hx⟩
        unfold fE
        rw [dif_pos hex]
        rw [eL_fun hB (Classical.choose_spec hex) hx]
      -- an operation that always is carried out
      have always : o.guard = none → Region.wanted o (yielded l.toArray t.tmps) = true := by
        intro hg; unfold Region.wanted; rw [hg]
      have grd : ∀ {b : Bool}, GO l env0 res i o b → Region.wanted o (yielded l.toArray t.tmps) = b := by
        intro b hgo
        unfold GO at hgo
        unfold Region.wanted
        split at hgo
        · rename_i hg; rw [hg]; exact hgo.symm
        · rename_i g want hg
          obtain ⟨og, s, hog, hogd, hc⟩ := hgo
          have hslot : s ∈ rdsO o.op ++ (grdSlot l o).toList := by
            simp [grdSlot, hg, hog, hogd]
          have hy : (l[g]?).bind (·.dst) = some s := by rw [hog]; exact hogd
          rw [hg]
          simp only
          rcases hc with ⟨c, hsrc, rfl⟩ | ⟨hsrc, rfl⟩
          · obtain ⟨v, hv, hrep⟩ := rd hslot hsrc
            rw [yielded_at hy hv, hrep.bool_inv]
            cases c <;> cases want <;> rfl
          · obtain ⟨v, hv, hrep⟩ := rd hslot hsrc
            obtain ⟨vs, rfl, _⟩ := hrep.tup_inv
            rw [yielded_at hy hv]; rfl
      -- what is known names no block that is new
      have hdmG : ∀ {id : Nat} {cs : List D}, c = some (id, cs) → a ≤ id → id < pinB → (∀ j c', j < i → ch[j]? ≠ some (some (id, c'))) → ∀ s e, eL l env0 res m L s e → mn id e = false := by
        rintro id cs rfl hai hpi hno s e (⟨j, p, q1, q2, q3, q4, q5⟩ | ⟨_, q2⟩)
        · obtain ⟨oj, dj, cj, r1, r2, r3, _, r4⟩ := hf j q1
          rw [q3] at r1; cases r1
          rw [q5] at r2; cases r2
          have other : ∀ {id2 : Nat} {cs2 : List D}, cj = some (id2, cs2) → (∀ k c', k < j → ch[k]? ≠ some (some (id2, c'))) → id2 ≠ id := by
            rintro id2 cs2 rfl hno2 e
            subst e
            rcases Nat.lt_trichotomy j i with h | h | h
            · exact hno j _ h r3
            · subst h; exact hnl q2
            · exact hno2 i _ h hch
          rcases r4 with ⟨_, hn, _⟩ | hal2 | hnw2 | hst2
          · exact hn id hai hpi
          · obtain ⟨_, _, id2, _, hcj, _, _, _, rfl, _, _, _, _, hno2⟩ := hal2
            have hne : id2 ≠ id := other hcj hno2
            simpa [mn] using hne
          · obtain ⟨_, id2, _, _, hcj, _, _, _, _, _, _, hdm2, _, _, hno2⟩ := hnw2
            have hne : id2 ≠ id := other hcj hno2
            exact hdm2 id hai hpi (fun e => hne e.symm)
          · obtain ⟨_, _, _, _, _, _, _, _, _, _, _, _, hdn, _⟩ := hst2
            rw [hdn] at q4; cases q4
        · exact he0 s e q2 id hai hpi
      rcases hfact with ⟨hcn, _, _, ⟨hgo, r, hr, hop⟩ | ⟨hgo, rfl⟩⟩ | hal | hnw | hst
      · rw [grd hgo, if_pos rfl]
        have hEn : ∀ s e, lk s (r ++ EnvOf n (eL l env0 res m L)) = some e → eL l env0 res m L s e := by
          intro s e hx
          rcases lk_app hx with hx | ⟨_, hx⟩
          · exact (hr s e hx).2.eL hB him ho' (by simp [(hr s e hx).1]) hp'
          · rw [lk_EnvOf] at hx
            split at hx
            · exact fE_ok hx
            · cases hx
        have hOO : ∀ id, lk id (own ++ O) = lk id O := by
          intro id
          cases e : lk id (own ++ O) with
          | none =>
            cases e2 : lk id O with
            | none => rfl
            | some c =>
              have : ∀ {A : List (Nat × List D)}, lk id (A ++ O) ≠ none := by
                intro A
                induction A with
                | nil => rw [List.nil_append, e2]; simp
                | cons x A ih =>
                  obtain ⟨s, y⟩ := x
                  simp only [List.cons_append, lk]
                  split
                  · simp
                  · exact ih
              exact absurd e this
          | some c =>
            have split : ∀ {A : List (Nat × List D)}, lk id (A ++ O) = some c → lk id A = some c ∨ lk id O = some c := by
              intro A hA
              induction A with
              | nil => exact .inr hA
              | cons x A ih =>
                obtain ⟨s, y⟩ := x
                simp only [List.cons_append, lk] at hA ⊢
                split at hA
                · rename_i h1; rw [if_pos h1]; exact .inl hA
                · rename_i h1; rw [if_neg h1]; exact ih hA
            rcases split e with h1 | h1
            · obtain ⟨g1, g2⟩ := hown id c h1
              rw [hO, OL_cut (i := 0) (by omega) (fun j c' _ hj hc => absurd hc (g2 j c' hj))]
              exact g1.symm
            · exact h1.symm
        have hs2 : SatC w0 φ ⟨n, a, r ++ EnvOf n (eL l env0 res m L), own ++ O⟩ t.tmps w :=
          SatC.congr_own (own := O) ⟨hs.below, hs.size, hs.own, hs.inj, fun s d hd => he s d (hEn s d hd), hs.base, hs.pin⟩ hOO
        refine opR_ok hG hs2 o (hop _ _) ?_
        rintro v w' ⟨φ', x, S', ⟨rfl, rfl⟩, hs3, hr3, _⟩
        have hs4 : SatC w0 φ' ⟨n, a, r ++ EnvOf n (eL l env0 res m L), O⟩ t.tmps w' := SatC.congr_own (own := own ++ O) hs3 fun id => (hOO id).symm
        have hFF : ∀ b, FSx φ' (own ++ O) w' b → FSx φ' O w' b := fun b hb => ⟨hb.1, fun id c hc => hb.2 id c (by rw [hOO]; exact hc), hb.3⟩
        refine step rfl (fun id => by rw [same hcn]; exact hO id) ⟨hs4.below, hs4.size, hs4.own, hs4.inj, fun s d hd => by simp [lk] at hd, hs4.base, hs4.pin⟩ (fun s e hx => hs4.env s e ?_) (fun _ _ => hr3.mono (fun _ _ => rfl) hFF)
        exact lk_app_mk (lkE hx) fun e' he' => eL_fun hB ((hr s e' he').2.eL hB him ho' (by simp [(hr s e' he').1]) hp') hx
      · rw [grd hgo, if_neg (by simp)]
        refine ⟨fun _ _ => trivial, ?_⟩
        exact step rfl (fun id => by rw [same hcn]; exact hO id) hs he (fun _ _ => .ro (.tup rfl fun i v d hv => by simp [undef] at hv))
      · -- a variable is laid
        obtain ⟨ty, s, id, cs, rfl, hop, hg, hds, rfl, hz, hnm, hai, hpi, hno⟩ := hal
        rw [always hg, if_pos rfl]
        obtain ⟨ii, zv, h1, h2, h3, h4⟩ := zeroW_ok hz
        have hdm := hdmG rfl hai hpi hno
        have hNM : NM id O := ⟨hpi, fun i2 x hx _ d hd => by
          rw [hO] at hx
          exact OL_nm h0 chnm hx d hd id hai hpi⟩
        have hs2 : SatC w0 φ ⟨n, id, EnvOf n (eL l env0 res m L), O⟩ t.tmps w := ⟨hs.below, hs.size, hs.own, hs.inj, fun s d hd => he s d (by
          rw [lk_EnvOf] at hd
          split at hd
          · exact fE_ok hd
          · cases hd), hs.base, hs.pin⟩
        have hnew := hs2.new zv.cells ty (0, 0) (zv.cells.toList.map dS) (fun o _ => by simp) (by simp) (fun j x d hx hd => by
          simp only [List.getElem?_map, Array.getElem?_toList, hx, Option.map_some, Option.some.injEq] at hd
          subst hd
          have := Array.all_eq_true.1 h3
          obtain ⟨hj, rfl⟩ := Array.getElem?_eq_some_iff.1 hx
          exact ⟨.ro (dS_ok w _ _), this j hj, mn_of_repR (dS_ok w (FSx φ O w) _) _⟩) hNM
        have hrun : (execOp t.eval o).run P w = .ok (.value (.pointer (some ⟨w.heap.size, 0, none⟩))) (w.alloc (.cells zv.cells ty)) := by
          have := run_alloc (P := P) (w := w) h1 h2
          simp only [execOp, hop, Sem.run_bind, this]; rfl
        refine wp_val (by rw [hop]; simp) hrun (step rfl (fun id' => ?_) ⟨hnew.below, hnew.size, hnew.own, hnew.inj, fun s d hd => by simp [lk] at hd, hnew.base, hnew.pin⟩ (fun s e hx => hnew.env s e (lk_purge_mk (lkE hx) (hdm s e hx))) (fun _ _ => .ptr (by rw [upd_same])))
        rw [turned rfl id']
        simp only [lk]
        split
        · rw [h4]
        · exact hO id'
      · -- a block is made by a callee
        obtain ⟨s, id, cs, r, hce, hcv, hg, hds, hnm, hai, hpi, hdd, hr, hop, hno⟩ := hnw
        rw [always hg, if_pos rfl]
        have hdm := hdmG hce hai hpi hno
        let X : List (Nat × List D) := O.map fun p => (p.1, (lk p.1 O).getD [])
        have hX : ∀ j, lk j X = lk j O := by
          intro j
          have : ∀ {g : Nat → List D} {A : List (Nat × List D)}, lk j (A.map fun p => (p.1, g p.1)) = (lk j A).map fun _ => g j := by
            intro g A
            induction A with
            | nil => rfl
            | cons x A ih =>
              obtain ⟨t, y⟩ := x
              simp only [List.map_cons, lk]
              split
              · rename_i e; subst e; rfl
              · exact ih
          rw [this (g := fun i => (lk i O).getD [])]
          cases lk j O <;> rfl
        have hOnm : ∀ j c', lk j O = some c' → nmC id c' := by
          intro j c' hj d hd
          rw [hO] at hj
          exact OL_nm h0 chnm hj d hd id hai hpi
        have hXW : ∀ A, nmW id X A = A := by
          intro A
          have : ∀ {B : List (Nat × List D)}, (∀ p ∈ B, nmC id p.2) → nmW id B A = A := by
            intro B
            induction B with
            | nil => intro _; exact propext ⟨fun h => h.2, fun h => ⟨hpi, h⟩⟩
            | cons p B ih =>
              obtain ⟨t, y⟩ := p
              intro hB
              have h1 := hB (t, y) (by simp)
              have h2 := ih fun p hp => hB p (by simp [hp])
              show (nmC id y ∧ nmW id B A) = A
              rw [h2]
              exact propext ⟨fun h => h.2, fun h => ⟨h1, h⟩⟩
          refine this fun p hp => ?_
          obtain ⟨q, hq, rfl⟩ := List.mem_map.1 hp
          show nmC id ((lk q.1 O).getD [])
          cases e : lk q.1 O with
          | none => intro d hd; simp at hd
          | some c' => exact hOnm q.1 c' e
        have hOO : ∀ j, lk j (own ++ X) = lk j O := by
          intro j
          have app : lk j (own ++ X) = match lk j own with | some c => some c | none => lk j X := by
            generalize own = A
            induction A with
            | nil => rfl
            | cons x A ih =>
              obtain ⟨s, y⟩ := x
              simp only [List.cons_append, lk]
              split
              · rfl
              · exact ih
          rw [app]
          cases e : lk j own with
          | none => exact hX j
          | some c =>
            obtain ⟨g1, g2⟩ := hown j c e
            simp only
            rw [hO, OL_cut (i := 0) (by omega) (fun k c' _ hk hc => absurd hc (g2 k c' hk))]
            exact g1.symm
        have hEn : ∀ s e, lk s (r ++ EnvOf n (eL l env0 res m L)) = some e → eL l env0 res m L s e := by
          intro s e hx
          rcases lk_app hx with hx | ⟨_, hx⟩
          · exact (hr s e hx).2.eL hB him ho' (by simp [(hr s e hx).1]) hp'
          · rw [lk_EnvOf] at hx
            split at hx
            · exact fE_ok hx
            · cases hx
        have hs2 : SatC w0 φ ⟨n, id, r ++ EnvOf n (eL l env0 res m L), own ++ X⟩ t.tmps w :=
          SatC.congr_own (own := O) ⟨hs.below, hs.size, hs.own, hs.inj, fun s d hd => he s d (hEn s d hd), hs.base, hs.pin⟩ hOO
        refine opW_ok hG hs2 o (hop _ _ hXW) ?_
        rintro v w' ⟨φ', x, S', ⟨rfl, rfl⟩, hs3, hr3, _⟩
        have hO2 : ∀ j, lk j ((id, cs) :: O) = lk j ((id, cs) :: (own ++ X)) := by
          intro j; simp only [lk]; split
          · rfl
          · exact (hOO j).symm
        have hs4 : SatC w0 φ' ⟨n, id + 1, purge id (r ++ EnvOf n (eL l env0 res m L)), (id, cs) :: O⟩ t.tmps w' := SatC.congr_own (own := (id, cs) :: (own ++ X)) hs3 hO2
        have hFF : ∀ b, FSx φ' ((id, cs) :: (own ++ X)) w' b → FSx φ' ((id, cs) :: O) w' b := fun b hb => ⟨hb.1, fun j c hc => hb.2 j c (by rw [← hO2]; exact hc), hb.3⟩
        refine step rfl (O' := (id, cs) :: O) (fun id' => ?_) ⟨hs4.below, hs4.size, hs4.own, hs4.inj, fun s d hd => by simp [lk] at hd, hs4.base, hs4.pin⟩ (fun s e hx => hs4.env s e (lk_purge_mk ?_ (hdm s e hx))) (fun _ _ => hr3.mono (fun _ _ => rfl) hFF)
        · rw [turned hce id']
          simp only [lk]
          split
          · rfl
          · exact hO id'
        · exact lk_app_mk (lkE hx) fun e' he' => eL_fun hB ((hr s e' he').2.eL hB him ho' (by simp [(hr s e' he').1]) hp') hx
      · -- a variable is stored to
        obtain ⟨ty, s, x, id, off, r, dx, ds, c0, rfl, hop, hg, hdn, hsrc, hr, hev, hsz, hcl, hfit, hspl, hc0, hpre⟩ := hst
        rw [always hg, if_pos rfl]
        have hslot : s ∈ rdsO o.op ++ (grdSlot l o).toList := by simp [hop, rdsO, Op.operands, rdO]
        have hid : lk id O = some c0 := by
          rw [hO, OL_cut (i := i) (by omega) (fun j c' h1 h2 hc => FX.later hB hf hI.closed hch him hnl j c' h1 h2 hc), ← hc0]
          refine OL_congr fun j c' hj hc => ⟨fun _ => trivial, fun _ => ?_⟩
          obtain ⟨p, hp1, hp2⟩ := hpre j c' hj hc
          have := hB.reads _ (mem_zip (by rw [List.getElem?_take_of_lt him]; exact ho')) s hslot _ (mem_zip (show (l.take m)[j]? = some p by rw [List.getElem?_take_of_lt (by omega)]; exact hp1)) hp2
          obtain ⟨e, he, hb⟩ := List.any_eq_true.1 this.2
          simp only [Bool.and_eq_true, beq_iff_eq] at hb
          have hx := hp' e he hb.1
          rw [hb.2] at hx
          exact hx
        have hs3 : SatC w0 φ ⟨n, a, [(s, .ptr id off)], O⟩ t.tmps w := ⟨hs.below, hs.size, hs.own, hs.inj, (fun u d hd => by
          simp only [lk] at hd
          split at hd
          · rename_i e; cases hd; subst e; exact rd hslot hsrc
          · cases hd), hs.base, hs.pin⟩
        obtain ⟨dp, rfl, hprep⟩ := evW_ok (x := .tmp s) (k := fun d => d = .ptr id off) hG hs3 (by show lkW s _ _; simp [lkW_cons])
        have hs2 : SatC w0 φ ⟨n, a, r ++ EnvOf n (eL l env0 res m L), O⟩ t.tmps w := ⟨hs.below, hs.size, hs.own, hs.inj, fun u d hd => he u d (by
          rcases lk_app hd with hx | ⟨_, hx⟩
          · exact (hr u d hx).2.eL hB him ho' (by simp [(hr u d hx).1]) hp'
          · rw [lk_EnvOf] at hx
            split at hx
            · exact fE_ok hx
            · cases hx), hs.base, hs.pin⟩
        obtain ⟨dv, rfl, hxrep⟩ := evW_ok hG hs2 (hev _ _)
        obtain ⟨ds', rfl, hl, hrr⟩ := clW_ok hxrep hcl
        generalize hpv : t.eval (.tmp s) = pv at hprep
        obtain ⟨ii, hi1, hi2⟩ := szW_ok hsz
        cases hprep with
        | ro hp => cases hp
        | @ptr _ _ b hb =>
          obtain ⟨w', hrun, hs', hrep⟩ := hs.store (P := P) (vs := (t.eval x).cells.toList) hid hb (by simpa using hl) hfit (fun i v d hv hd => hrr i v d (by simpa using hv) hd)
          have hrun2 : (execOp t.eval o).run P w = .ok .skip w' := by
            have : (Instr.storeAt ty (t.eval (.tmp s)) (t.eval x)).run P w = .ok () w' := by
              rw [hpv]
              simp [Instr.storeAt, Instr.sureAddr, storeVar, sizeOf, typeInfo, hi1, hl, hi2, hrun]
            simp only [execOp, hop, Sem.run_bind, this]; rfl
          refine wp_skp (by rw [hop]; simp) hrun2 (step rfl (fun id' => ?_) hs' (fun s e hx => ?_) (fun s' h => by rw [hdn] at h; cases h))
          · rw [turned rfl id']
            split
            · rename_i e; subst e; exact lk_setO_same hid
            · rename_i e; rw [lk_setO_other e]; exact hO id'
          · obtain ⟨v, hv1, hv2⟩ := he s e hx
            exact ⟨v, hv1, hrep v e hv2⟩
end

/-- What is turned in a region, apart from what is not. -/
def splitO (hid : List Nat) : List (Nat × List D) → (List (Nat × List D) → List (Nat × List D) → Prop) → Prop
  | [], k => k [] []
  | (i, c) :: r, k => (i ∈ hid → splitO hid r fun dy ow => k ((i, c) :: dy) ow) ∧ (¬ i ∈ hid → splitO hid r fun dy ow => k dy ((i, c) :: ow))
theorem splitO_ok {hid : List Nat} : ∀ {O : List (Nat × List D)} {k : List (Nat × List D) → List (Nat × List D) → Prop}, splitO hid O k → ∃ dy ow, k dy ow ∧ ∀ i, (i ∈ hid → lk i dy = lk i O ∧ lk i ow = none) ∧ (¬ i ∈ hid → lk i dy = none ∧ lk i ow = lk i O)
  | [], k, h => ⟨[], [], h, fun i => ⟨fun _ => ⟨rfl, rfl⟩, fun _ => ⟨rfl, rfl⟩⟩⟩
  | (j, c) :: r, k, h => by
    by_cases e : j ∈ hid
    · obtain ⟨dy, ow, hk, hs⟩ := splitO_ok (h.1 e)
      refine ⟨_, _, hk, fun i => ⟨fun hi => ?_, fun hi => ?_⟩⟩
      · simp only [lk]; split
        · exact ⟨rfl, ((hs i).1 hi).2⟩
        · exact (hs i).1 hi
      · have hne : i ≠ j := fun e2 => hi (e2 ▸ e)
        simp only [lk]; rw [if_neg hne, if_neg hne]
        exact (hs i).2 hi
    · obtain ⟨dy, ow, hk, hs⟩ := splitO_ok (h.2 e)
      refine ⟨_, _, hk, fun i => ⟨fun hi => ?_, fun hi => ?_⟩⟩
      · have hne : i ≠ j := fun e2 => e (e2 ▸ hi)
        simp only [lk]; rw [if_neg hne, if_neg hne]
        exact (hs i).1 hi
      · simp only [lk]; split
        · exact ⟨((hs i).2 hi).1, rfl⟩
        · exact (hs i).2 hi
/-- A region that draws its order, and in which variables are laid and stored to. -/
def rgnX (G : Glob) (P : Program) (l : List Oper) (m : Nat) (hid : List Nat) (S : St) (k : St → Prop) : Prop :=
  nmRE S.nx S.env ∧ nmRO S.nx S.own ∧ splitO hid S.own fun dy ow => drxW G P l S.n S.nx ow (l.take m) S.nx dy [] [] S.env fun nxt dy' E => opsW G P l (l.drop m) ⟨S.n, nxt, E, dy' ++ ow⟩ k
theorem drx_ok {r : Option Nat} {N : Nat} {G : Glob} {P : Program} {w0 : Bas} {w : World} {φ : Loc} {S : St} {a : Act} {k : St → Prop} {Q : Exit → Act → World → Prop} {l : List Oper} {id m : Nat} {hid : List Nat} (hG : GOk G w0) (hm : P.follows .mixedOrders = true) (hml : m ≤ l.length) (hB : drwB l m = true)
    (hs : SatC w0 φ S a.tmps w) (h : rgnX G P l m hid S k) (hn : ∀ S' a' w' φ', k S' → SatC w0 φ' S' a'.tmps w' → S'.n = S.n → a'.defers = a.defers → Q .normal a' w') : (Code.region id l.toArray true).wpIn (fw r) N P Q a w := by
  obtain ⟨hE, hO, h⟩ := h
  obtain ⟨dy, ow, h, hsp⟩ := splitO_ok h
  have hB := drwB_ok hB
  have dyO : ∀ i c, lk i dy = some c → lk i S.own = some c ∧ lk i ow = none := by
    intro i c hc
    by_cases e : i ∈ hid
    · exact ⟨((hsp i).1 e).1 ▸ hc, ((hsp i).1 e).2⟩
    · rw [((hsp i).2 e).1] at hc; cases hc
  have owO : ∀ i c, lk i ow = some c → lk i S.own = some c := by
    intro i c hc
    by_cases e : i ∈ hid
    · rw [((hsp i).1 e).2] at hc; cases hc
    · exact ((hsp i).2 e).2 ▸ hc
  have Oall : ∀ i, lk i dy = none → lk i ow = lk i S.own := by
    intro i hd
    by_cases e : i ∈ hid
    · rw [((hsp i).1 e).2, ← ((hsp i).1 e).1, hd]
    · exact ((hsp i).2 e).2
  obtain ⟨res, ch, nxt', dy', al', st', E2, _, _, r3, r4, r5, r6, r7, r8⟩ := drx_ext (l := l) (env0 := S.env) (O0 := S.own) (K := fun i => ∃ c, lk i dy = some c) hml (l.take m) 0 S.nx dy [] [] S.env [] [] rfl rfl (Nat.zero_le _) (by simp)
    (fun t d hd => .inr ⟨fun j o hj => by omega, hd⟩)
    ⟨Nat.le_refl _, fun i c hc => ⟨(dyO i c hc).1, (nmRO_ok hO i c (dyO i c hc).1).1, (nmRO_ok hO i c (dyO i c hc).1).2⟩, fun i c hc => .inl ⟨c, hc⟩, fun i hk => hk, fun j i c hc => by simp at hc⟩ h
  have notin : ∀ i c, lk i ow = some c → lk i dy' = none := by
    intro i c hc
    cases e : lk i dy' with
    | none => rfl
    | some c' =>
      rcases r7.key i c' e with ⟨c2, h2⟩ | h2
      · rw [(dyO i c2 h2).2] at hc; cases hc
      · have := (nmRO_ok hO i c (owO i c hc)).1; omega
  refine wpIn_region_any hm ?_
  have hsz : l.toArray.size = l.length := by simp
  rw [hsz]
  refine drx_run (w0 := w0) (n := S.n) (a := S.nx) (own := ow) (O0 := S.own) (df := a.defers) (res := res) (ch := ch) (m := m) (env0 := S.env) hG hB hml r4 (fun j hj => r5 j (Nat.zero_le _) hj) (fun i c hc => (nmRO_ok hO i c hc).2) (nmRE_ok hE)
    (fun i c hc => ⟨owO i c hc, fun j c' hj hch => by
      obtain ⟨⟨c2, h2⟩, _⟩ := r7.tch j i c' hch
      rw [notin i c hc] at h2; cases h2⟩) E2 r6 (fun a' w' φ' O hd hOL hs' => ?_) l.length _ a _ ⟨by simp, fun j o hj hl => ?_⟩ ?_ (.inl ⟨fun j hj hl => ?_, rfl, φ, S.own, ?_, ?_⟩)
  · have hs2 : SatC w0 φ' ⟨S.n, nxt', E2, dy' ++ ow⟩ a'.tmps w' := by
      refine SatC.congr_own (own := O) ⟨hs'.below, hs'.size, hs'.own, hs'.inj, hs'.env, hs'.base, hs'.pin⟩ fun j => ?_
      have app : lk j (dy' ++ ow) = match lk j dy' with | some c => some c | none => lk j ow := by
        generalize dy' = A
        induction A with
        | nil => rfl
        | cons x A ih =>
          obtain ⟨s, y⟩ := x
          simp only [List.cons_append, lk]
          split
          · rfl
          · exact ih
      rw [app, hOL]
      cases e : lk j dy' with
      | some c => exact (r7.dyc j c e).1.symm
      | none =>
        simp only
        rw [OL_cut (i := 0) (Nat.zero_le _) (fun i c _ _ hc => by obtain ⟨⟨c2, h2⟩, _⟩ := r7.tch i j c hc; rw [e] at h2; cases h2)]
        refine Oall j ?_
        cases e2 : lk j dy with
        | none => rfl
        | some c => obtain ⟨c3, h3⟩ := r7.keep j ⟨c, e2⟩; rw [e] at h3; cases h3
    exact opsW_ok hG hs2 r8 fun S2 a2 w2 φ2 q1 q2 q3 q4 => hn S2 a2 w2 φ2 q1 q2 q3 (q4.trans hd)
  · exact absurd hl lst_none
  · unfold unl; simp
  · exact absurd hl lst_none
  · intro i
    rw [OL_cut (i := 0) (Nat.zero_le _) (fun j c _ _ _ => lst_none)]; rfl
  · have hs2 := hs.drew
    refine ⟨⟨hs2.below, hs2.size, hs2.own, hs2.inj, fun s d hd => by simp [lk] at hd, hs2.base, hs2.pin⟩, fun t d ht => ?_⟩
    refine hs2.env t d ?_
    rcases ht with ⟨j, o, q1, q2, q3, q4, q5⟩ | ⟨_, q2⟩
    · exact absurd q2 lst_none
    · exact q2
#print axioms drx_ok
end Go.Abs
end
section
namespace Go.Abs

/-- What S knows of T's blocks is what T says. -/
def pE (q : Option Nat) (E : List (Nat × D)) : List (Nat × D) := match q with | none => E | some id => purge id E
/-- Does it name none of these? -/
def nmT : List Nat → D → Prop
  | [], _ => True
  | i :: r, d => mn i d = false ∧ nmT r d
theorem nmT_ok {tc : List Nat} {d : D} (h : nmT tc d) : ∀ i ∈ tc, mn i d = false := by
  induction tc with
  | nil => intro i hi; simp at hi
  | cons x r ih =>
    intro i hi
    rcases List.mem_cons.1 hi with rfl | hi
    · exact h.1
    · exact ih h.2 i hi
theorem nmT_any (tc : List Nat) : nmT tc .any := by
  induction tc with
  | nil => trivial
  | cons x r ih => exact ⟨rfl, ih⟩
theorem nmT_tup (tc : List Nat) (ds : List D) : nmT tc (.tup ds) := by
  induction tc with
  | nil => trivial
  | cons x r ih => exact ⟨rfl, ih⟩
def nmTE (tc : List Nat) : List (Nat × D) → Prop
  | [] => True
  | (_, d) :: r => nmT tc d ∧ nmTE tc r
theorem nmTE_ok {tc : List Nat} : ∀ {E : List (Nat × D)}, nmTE tc E → ∀ t d, lk t E = some d → nmT tc d
  | [], _, t, d, h => by simp [lk] at h
  | (s, e) :: r, ⟨h1, h2⟩, t, d, h => by
    simp only [lk] at h
    split at h
    · cases h; exact h1
    · exact nmTE_ok h2 t d h
def noE (t : Nat) : List (Nat × D) → Prop
  | [] => True
  | (s, _) :: r => ¬ t = s ∧ noE t r
theorem noE_ok {t : Nat} : ∀ {E : List (Nat × D)}, noE t E → lk t E = none
  | [], _ => rfl
  | (s, e) :: r, h => by simp only [lk]; rw [if_neg h.1]; exact noE_ok h.2
def noEs : List Nat → List (Nat × D) → Prop
  | [], _ => True
  | t :: r, E => noE t E ∧ noEs r E
theorem noEs_ok {sl : List Nat} {E : List (Nat × D)} (h : noEs sl E) : ∀ t ∈ sl, lk t E = none := by
  induction sl with
  | nil => intro t ht; simp at ht
  | cons s r ih =>
    intro t ht
    rcases List.mem_cons.1 ht with rfl | ht
    · exact noE_ok h.1
    · exact ih h.2 t ht
/-- The slots of an environment are among these. -/
def inE (sl : List Nat) : List (Nat × D) → Prop
  | [] => True
  | (s, _) :: r => sl.contains s = true ∧ inE sl r
theorem inE_ok {sl : List Nat} : ∀ {E : List (Nat × D)}, inE sl E → ∀ t d, lk t E = some d → t ∈ sl
  | [], _, t, d, h => by simp [lk] at h
  | (s, e) :: r, ⟨h1, h2⟩, t, d, h => by
    simp only [lk] at h
    split at h
    · rename_i e; subst e; simpa using h1
    · exact inE_ok h2 t d h
/-- Is this place in the chain? -/
def nbW (i : Nat) (A B : Prop) : List Nat → Prop
  | [] => B
  | b :: r => (i = b → A) ∧ (¬ i = b → nbW i A B r)
theorem nbW_ok {i : Nat} {A B : Prop} : ∀ {bs : List Nat}, nbW i A B bs → (i ∈ bs ∧ A) ∨ (i ∉ bs ∧ B)
  | [], h => .inr ⟨by simp, h⟩
  | b :: r, h => by
    by_cases e : i = b
    · exact .inl ⟨by simp [e], h.1 e⟩
    · rcases nbW_ok (h.2 e) with ⟨h1, h2⟩ | ⟨h1, h2⟩
      · exact .inl ⟨by simp [h1], h2⟩
      · exact .inr ⟨by simp [e, h1], h2⟩
def dstP (n : Nat) (d : Option Tmp) : Prop := match d with | none => True | some s => s < n
def putE (d : Option Tmp) (x : D) (E : List (Nat × D)) : List (Nat × D) := match d with | none => E | some s => (s, x) :: E
/-- The operations beside the chain. -/
def drcW (G : Glob) (P : Program) (ops : List Oper) (n a : Nat) (own : List (Nat × List D)) (tc bs : List Nat) : List Oper → Nat → List (Nat × D) → (List (Nat × D) → Prop) → Prop
  | [], _, E, k => k E
  | o :: rest, i, E, k => nbW i (dstP n o.dst ∧ drcW G P ops n a own tc bs rest (i + 1) (putE o.dst .any E) k)
      (stb o.op = true ∧ grdW ops o.guard ⟨n, a, E, own⟩
        (fun S => rsW (rdsO o.op) S.env fun r => exD (fun d => ∀ (E' : List (Nat × D)) (X : List (Nat × List D)), opR G P o.op ⟨n, a, r ++ E', own ++ X⟩ fun x T => x = d ∧ T = ⟨n, a, r ++ E', own ++ X⟩) (fun d => nmT tc d ∧ putW o.dst d S fun S => drcW G P ops n a own tc bs rest (i + 1) S.env k) (tgd _))
        (fun S => putW o.dst (.tup []) S fun S => drcW G P ops n a own tc bs rest (i + 1) S.env k)) bs
/-- What is known behind an operation of the chain: of its result, of what was known ahead. -/
def ebW (dst : Option Tmp) (d : D) (pq : Option Nat) (EB : List (Nat × D)) : List (Nat × D) → Prop
  | [] => True
  | (t, e) :: r => ((dst = some t ∧ e = d) ∨ (dst ≠ some t ∧ lkW t EB (fun x => x = e) ∧ ∀ id, pq = some id → mn id e = false)) ∧ ebW dst d pq EB r
theorem ebW_ok {dst : Option Tmp} {d : D} {pq : Option Nat} {EB : List (Nat × D)} : ∀ {E : List (Nat × D)}, ebW dst d pq EB E → ∀ t e, lk t E = some e → (dst = some t ∧ e = d) ∨ (dst ≠ some t ∧ lk t EB = some e ∧ ∀ id, pq = some id → mn id e = false)
  | [], _, t, e, h => by simp [lk] at h
  | (s, x) :: r, ⟨h1, h2⟩, t, e, h => by
    simp only [lk] at h
    split at h
    · rename_i e1; cases h; subst e1
      rcases h1 with h1 | ⟨h1, h3, h4⟩
      · exact .inl h1
      · obtain ⟨y, hy, rfl⟩ := lkW_ok h3
        exact .inr ⟨h1, hy, h4⟩
    · exact ebW_ok h2 t e h
/-- Is the operation carried out? -/
def gdW (ops : List Oper) (g : Option (Nat × Bool)) (E : List (Nat × D)) (b : Bool) : Prop :=
  match g with
  | none => b = true
  | some (j, want) => ∃ og s, ops[j]? = some og ∧ og.dst = some s ∧ ((∃ c, lk s E = some (.bool c) ∧ b = (c == want)) ∨ (lk s E = some (.tup []) ∧ b = false))
/-- The chain, one operation behind the other. -/
def chnW (G : Glob) (P : Program) (ops : List Oper) (n : Nat) (tc sl : List Nat) (ownA : List (Nat × List D)) (E2 : List (Nat × D)) : List Nat → Nat → List (Nat × List D) → List (Nat × D) → (Nat → List (Nat × List D) → List (Nat × D) → Prop) → Prop
  | [], nx, own, EB, K => K nx own EB
  | b :: bs, nx, own, EB, K => ∃ o r d pq nx' own' EB', ops[b]? = some o ∧ wkE E2 r ∧ (∀ p ∈ r, p.1 ∈ rdsO o.op) ∧ ebW o.dst d pq EB EB' ∧ inE sl EB' ∧ wkO own' ownA ∧ (∀ id, pq = some id → id ∈ tc) ∧
      ((gdW ops o.guard E2 true ∧ ∀ E' : List (Nat × D), opW G P o.op ⟨n, nx, EB ++ (r ++ E'), own⟩ fun x T => x = d ∧ T = ⟨n, nx', pE pq (EB ++ (r ++ E')), own'⟩) ∨
        (gdW ops o.guard E2 false ∧ d = .tup [] ∧ pq = none ∧ own' = own)) ∧
      chnW G P ops n tc sl ownA E2 bs nx' own' EB' K
def chOk (l : List Oper) : Nat → List Nat → Bool
  | _, [] => true
  | b, c :: r => (match l[c]? with | some o => dir o b | none => false) && chOk l c r
def chB (l : List Oper) : List Nat → Bool
  | [] => true
  | b :: r => chOk l b r
structure DrcB (l : List Oper) (m : Nat) (bs sl : List Nat) : Prop where
  drw : DrwB l m
  nodup : bs.Nodup
  lt : ∀ b ∈ bs, b < m
  ch : chB l bs = true
  rds : ∀ x ∈ (l.take m).zipIdx, x.2 ∉ bs → (∀ t ∈ rdsO x.1.op ++ (grdSlot l x.1).toList, t ∉ sl) ∧ ∀ s, x.1.dst = some s → s ∉ sl
def drcB (l : List Oper) (m : Nat) (bs sl : List Nat) : Bool :=
  drwB l m && decide bs.Nodup && (bs.all fun b => decide (b < m)) && chB l bs &&
  ((l.take m).zipIdx.all fun x => bs.contains x.2 || (((rdsO x.1.op ++ (grdSlot l x.1).toList).all fun t => !sl.contains t) && match x.1.dst with | none => true | some s => !sl.contains s))
theorem drcB_ok {l : List Oper} {m : Nat} {bs sl : List Nat} (h : drcB l m bs sl = true) : DrcB l m bs sl := by
  simp only [drcB, Bool.and_eq_true, List.all_eq_true, Bool.or_eq_true, decide_eq_true_eq, Bool.not_eq_true'] at h
  obtain ⟨⟨⟨⟨h1, h2⟩, h3⟩, h4⟩, h5⟩ := h
  refine ⟨drwB_ok h1, h2, h3, h4, fun x hx hn => ?_⟩
  · have h6 := (h5 x hx).resolve_left (fun h => hn (by simpa using h))
    refine ⟨fun t ht hts => ?_, fun s hs hss => ?_⟩
    · have := h6.1 t ht
      rw [List.contains_eq_mem] at this
      simp [hts] at this
    · have := h6.2
      rw [hs] at this
      simp [hss] at this
theorem chOk_pre {l : List Oper} : ∀ {r : List Nat} {b : Nat}, chOk l b r = true → ∀ c ∈ r, ∃ x ∈ b :: r, ∃ o, l[c]? = some o ∧ dir o x = true
  | [], _, _, c, hc => by simp at hc
  | d :: r, b, h, c, hc => by
    simp only [chOk, Bool.and_eq_true] at h
    rcases List.mem_cons.1 hc with rfl | hc
    · cases e : l[c]? with
      | none => rw [e] at h; simp at h
      | some o => rw [e] at h; exact ⟨b, by simp, o, rfl, h.1⟩
    · obtain ⟨x, hx, o, ho, hd⟩ := chOk_pre h.2 c hc
      exact ⟨x, List.mem_cons_of_mem _ hx, o, ho, hd⟩
theorem chOk_cut {l : List Oper} {b : Nat} {rest : List Nat} : ∀ {ds : List Nat} {x : Nat}, chOk l x (ds ++ b :: rest) = true → chOk l b rest = true
  | [], x, h => by simp only [List.nil_append, chOk, Bool.and_eq_true] at h; exact h.2
  | y :: ds, x, h => by simp only [List.cons_append, chOk, Bool.and_eq_true] at h; exact chOk_cut h.2
theorem chOk_app {l : List Oper} {b : Nat} {rest : List Nat} : ∀ {ds : List Nat}, chB l (ds ++ b :: rest) = true → chOk l b rest = true
  | [], h => h
  | x :: ds, h => chOk_cut (ds := ds) (x := x) h
theorem lk_mem {α : Type} {s : Nat} {e : α} : ∀ {r : List (Nat × α)}, lk s r = some e → (s, e) ∈ r
  | [], h => by simp [lk] at h
  | (u, d) :: r, h => by
    simp only [lk] at h
    split at h
    · rename_i h1; cases h; subst h1; simp
    · exact List.mem_cons_of_mem _ (lk_mem h)
section
variable (l : List Oper) (env0 : List (Nat × D))
def FQ (G : Glob) (P : Program) (n a : Nat) (own : List (Nat × List D)) (tc bs : List Nat) (res : List D) (i : Nat) : Prop :=
  ∃ o d, l[i]? = some o ∧ res[i]? = some d ∧ (∀ s, o.dst = some s → s < n) ∧ nmT tc d ∧
    ((i ∈ bs ∧ d = .any) ∨ (i ∉ bs ∧
    ((GO l env0 res i o true ∧ ∃ r : List (Nat × D), (∀ t d, (t, d) ∈ r → t ∈ rdsO o.op ∧ Srd l env0 res i t d) ∧
        ∀ (E' : List (Nat × D)) (X : List (Nat × List D)), opR G P o.op ⟨n, a, r ++ E', own ++ X⟩ fun x T => x = d ∧ T = ⟨n, a, r ++ E', own ++ X⟩) ∨
      (GO l env0 res i o false ∧ d = .tup []))))
end
variable {l : List Oper} {env0 : List (Nat × D)}
theorem drc_ext {G : Glob} {P : Program} {n a m : Nat} {own : List (Nat × List D)} {tc bs : List Nat} {k : List (Nat × D) → Prop} (hml : m ≤ l.length) : ∀ (rest : List Oper) (i : Nat) (E : List (Nat × D)) (acc : List D),
    acc.length = i → i ≤ m → (l.take m).drop i = rest → Coh l env0 acc i E → drcW G P l n a own tc bs rest i E k →
    ∃ res E2, acc <+: res ∧ res.length = m ∧ (∀ j, i ≤ j → j < m → FQ l env0 G P n a own tc bs res j) ∧ Coh l env0 res m E2 ∧ k E2
  | [], i, E, acc, hl, hle, hd, hc, h => by
    have hil : i = m := by
      have := congrArg List.length hd; simp at this; omega
    subst hil
    exact ⟨acc, E, List.prefix_refl _, hl, fun j h1 h2 => by omega, hc, h⟩
  | o :: rest, i, E, acc, hl, hle, hd, hc, h => by
    have him : i < m := by
      have := congrArg List.length hd; simp at this; omega
    have ho : l[i]? = some o := by
      have := congrArg (fun z => z[0]?) hd
      simp only [List.getElem?_drop, Nat.add_zero, List.getElem?_cons_zero] at this
      rwa [List.getElem?_take_of_lt him] at this
    have hd2 : (l.take m).drop (i + 1) = rest := by
      have := congrArg (List.drop 1) hd; simpa [List.drop_drop] using this
    have getd : ∀ {d : D} {res : List D}, acc ++ [d] <+: res → res[i]? = some d := by
      rintro d res ⟨r, rfl⟩
      rw [List.append_assoc, List.getElem?_append_right (by omega), hl]; simp
    have pre : ∀ {d : D} {res : List D}, acc ++ [d] <+: res → acc <+: res := fun h => (List.prefix_append _ _).trans h
    have go : ∀ (d : D) (E1 : List (Nat × D)), Coh l env0 (acc ++ [d]) (i + 1) E1 → drcW G P l n a own tc bs rest (i + 1) E1 k → (∀ res, acc ++ [d] <+: res → FQ l env0 G P n a own tc bs res i) →
        ∃ res E2, acc <+: res ∧ res.length = m ∧ (∀ j, i ≤ j → j < m → FQ l env0 G P n a own tc bs res j) ∧ Coh l env0 res m E2 ∧ k E2 := by
      intro d E1 h1 h2 h3
      obtain ⟨res, E2, r1, r2, r3, r4, r5⟩ := drc_ext hml rest (i + 1) E1 (acc ++ [d]) (by simp [hl]) (by omega) hd2 h1 h2
      refine ⟨res, E2, pre r1, r2, fun j h1 h2 => ?_, r4, r5⟩
      by_cases e : j = i
      · subst e; exact h3 res r1
      · exact r3 j (by omega) h2
    unfold drcW at h
    rcases nbW_ok h with ⟨hb, hdst, h⟩ | ⟨hb, hst, h⟩
    · have hstep := hc.step (d := .any) hl ho
      refine go .any _ hstep (by cases e : o.dst <;> simpa [putE, e] using h) fun res hp => ⟨o, .any, ho, getd hp, fun s hs => ?_, nmT_any _, .inl ⟨hb, rfl⟩⟩
      unfold dstP at hdst; rw [hs] at hdst; exact hdst
    · have go2 : ∀ (d : D) (E' : List (Nat × D)), nmT tc d → Coh l env0 acc i E' → (putW o.dst d ⟨n, a, E', own⟩ fun S => drcW G P l n a own tc bs rest (i + 1) S.env k) →
          ((∀ s, o.dst = some s → s < n) → ∀ res, acc ++ [d] <+: res → FQ l env0 G P n a own tc bs res i) →
          ∃ res E2, acc <+: res ∧ res.length = m ∧ (∀ j, i ≤ j → j < m → FQ l env0 G P n a own tc bs res j) ∧ Coh l env0 res m E2 ∧ k E2 := by
        intro d E' hn hc' hp hf
        have hstep := hc'.step (d := d) hl ho
        have : (∀ s, o.dst = some s → s < n) ∧ drcW G P l n a own tc bs rest (i + 1) (match o.dst with | none => E' | some s => (s, d) :: E') k := by
          cases hdst : o.dst with
          | none => rw [hdst] at hp; exact ⟨(fun s hs => by cases hs), hp⟩
          | some s => rw [hdst] at hp; exact ⟨fun s' hs => by cases hs; exact hp.1, hp.2⟩
        exact go d _ hstep this.2 (hf this.1)
      have wanted : ∀ (E' : List (Nat × D)), Coh l env0 acc i E' → GO l env0 acc i o true →
          (rsW (rdsO o.op) E' fun r => exD (fun d => ∀ (E'' : List (Nat × D)) (X : List (Nat × List D)), opR G P o.op ⟨n, a, r ++ E'', own ++ X⟩ fun x T => x = d ∧ T = ⟨n, a, r ++ E'', own ++ X⟩) (fun d => nmT tc d ∧ putW o.dst d ⟨n, a, E', own⟩ fun S => drcW G P l n a own tc bs rest (i + 1) S.env k) (tgd _)) →
          ∃ res E2, acc <+: res ∧ res.length = m ∧ (∀ j, i ≤ j → j < m → FQ l env0 G P n a own tc bs res j) ∧ Coh l env0 res m E2 ∧ k E2 := by
        intro E' hc' hgo hr
        obtain ⟨r, ⟨d, hop, hn, hk⟩, hrr⟩ := rsW_ok hr
        exact go2 d E' hn hc' hk fun hsn res hp => ⟨o, d, ho, getd hp, hsn, hn, .inr ⟨hb, .inl ⟨hgo.ext (pre hp) (by omega), r, fun t e he => ⟨(hrr t e he).1, (Srd.ext (pre hp) (by omega)).1 (hc' t e (hrr t e he).2)⟩, hop⟩⟩⟩
      have skipped : ∀ (E' : List (Nat × D)), Coh l env0 acc i E' → GO l env0 acc i o false → (putW o.dst (.tup []) ⟨n, a, E', own⟩ fun S => drcW G P l n a own tc bs rest (i + 1) S.env k) →
          ∃ res E2, acc <+: res ∧ res.length = m ∧ (∀ j, i ≤ j → j < m → FQ l env0 G P n a own tc bs res j) ∧ Coh l env0 res m E2 ∧ k E2 := by
        intro E' hc' hgo hk
        exact go2 _ E' (nmT_tup _ _) hc' hk fun hsn res hp => ⟨o, _, ho, getd hp, hsn, nmT_tup _ _, .inr ⟨hb, .inr ⟨hgo.ext (pre hp) (by omega), rfl⟩⟩⟩
      unfold grdW at h
      split at h
      · rename_i hg
        exact wanted E hc (by unfold GO; rw [hg]) h
      · rename_i g want hg
        obtain ⟨s, hs2, h⟩ := dstW_ok h
        obtain ⟨og, hog, hogd⟩ : ∃ og, l[g]? = some og ∧ og.dst = some s := by
          cases hx : l[g]? with
          | none => rw [hx] at hs2; cases hs2
          | some og => rw [hx] at hs2; exact ⟨og, rfl, hs2⟩
        obtain ⟨dg, hdg, h⟩ := lkW_ok h
        have hsrc := hc s dg hdg
        have hcons : ∀ b : Bool, dg = .bool b → Coh l env0 acc i ((s, .bool b) :: E) := by
          intro b hb t e he
          simp only [lk] at he
          split at he
          · rename_i e1; cases he; subst e1; rw [← hb]; exact hsrc
          · exact hc t e he
        split at h
        · rename_i c
          by_cases e : c = want
          · exact wanted _ (hcons want (by rw [e])) (by unfold GO; rw [hg]; exact ⟨og, s, hog, hogd, .inl ⟨c, hsrc, by simp [e]⟩⟩) (h.1 e)
          · have e2 : (!want) = c := by cases c <;> cases want <;> simp_all
            exact skipped _ (hcons (!want) (by rw [e2])) (by unfold GO; rw [hg]; exact ⟨og, s, hog, hogd, .inl ⟨c, hsrc, by simp [e]⟩⟩) (h.2 e)
        · exact skipped E hc (by unfold GO; rw [hg]; exact ⟨og, s, hog, hogd, .inr ⟨hsrc, rfl⟩⟩) h
        · exact h.elim

theorem lk_apE {t : Nat} : ∀ {a b : List (Nat × D)}, lk t (a ++ b) = match lk t a with | some d => some d | none => lk t b
  | [], b => rfl
  | (s, e) :: a, b => by
    simp only [List.cons_append, lk]
    split
    · rfl
    · exact lk_apE
theorem lk_apO {α : Type} {t : Nat} : ∀ {a b : List (Nat × α)}, lk t (a ++ b) = match lk t a with | some d => some d | none => lk t b
  | [], b => rfl
  | (s, e) :: a, b => by
    simp only [List.cons_append, lk]
    split
    · rfl
    · exact lk_apO
theorem lk_pE {t : Nat} {q : Option Nat} {E : List (Nat × D)} {d : D} (h : lk t E = some d) (hq : ∀ id, q = some id → mn id d = false) : lk t (pE q E) = some d := by
  cases q with
  | none => exact h
  | some id => exact lk_purge_mk h (hq id rfl)

section
variable {G : Glob} {P : Program} {w0 : Bas} {n a : Nat} {ownA : List (Nat × List D)} {tc bs sl : List Nat} {Q : Exit → Act → World → Prop} {df : List Deferred} {res : List D} {m : Nat} {r : Option Nat} {N : Nat} {E2 : List (Nat × D)} {K : Nat → List (Nat × List D) → List (Nat × D) → Prop}
def InvQ (r : Option Nat) (N : Nat) (G : Glob) (P : Program) (w0 : Bas) (n a : Nat) (ownA : List (Nat × List D)) (tc bs sl : List Nat) (Q : Exit → Act → World → Prop) (df : List Deferred) (l : List Oper) (env0 : List (Nat × D)) (res : List D) (m : Nat) (E2 : List (Nat × D)) (K : Nat → List (Nat × List D) → List (Nat × D) → Prop) (L : Array Bool) (t : Act) (w : World) : Prop :=
  ((∀ j, m ≤ j → ¬ Lst L j) ∧ t.defers = df ∧ ∃ (done rest : List Nat) (nx : Nat) (own : List (Nat × List D)) (EB : List (Nat × D)) (φ : Loc), bs = done ++ rest ∧ (∀ b ∈ done, Lst L b) ∧ (∀ b ∈ rest, ¬ Lst L b) ∧
      chnW G P l n tc sl ownA E2 rest nx own EB K ∧ (∀ id c, lk id ownA = some c → lk id own = some c) ∧ (∀ t d, lk t EB = some d → t ∈ sl) ∧ SatC w0 φ ⟨n, a, [], own⟩ t.tmps w ∧
      (∀ s d, eL l env0 res m L s d → ∃ v, t.tmps[s]? = some v ∧ Rep φ w (FSx φ own w) v d) ∧ ∀ s d, lk s EB = some d → ∃ v, t.tmps[s]? = some v ∧ Rep φ w (FSx φ own w) v d) ∨
  ∃ j0, m ≤ j0 ∧ (∀ j, j < j0 → j < l.length → Lst L j) ∧ (∀ j, j0 ≤ j → ¬ Lst L j) ∧ wpListIn (fw r) N P l.toArray Q (l.drop j0) t w

theorem drc_run (hG : GOk G w0) (hB : DrcB l m bs sl) (hml : m ≤ l.length) (hmr : res.length = m) (hf : ∀ j, j < m → FQ l env0 G P n a ownA tc bs res j)
    (he0 : ∀ t d, lk t env0 = some d → nmT tc d) (hsl : ∀ t ∈ sl, lk t env0 = none)
    (hE2 : Coh l env0 res m E2) (tailOk : ∀ (t : Act) (w : World) (φ : Loc) (nx : Nat) (own : List (Nat × List D)) (EB : List (Nat × D)), t.defers = df → K nx own EB → SatC w0 φ ⟨n, nx, EB ++ E2, own⟩ t.tmps w → wpListIn (fw r) N P l.toArray Q (l.drop m) t w) :
    ∀ (fuel : Nat) (L : Array Bool) (t : Act) (w : World), InvC l L → unl L ≤ fuel → InvQ r N G P w0 n a ownA tc bs sl Q df l env0 res m E2 K L t w → wpAnyIn (fw r) N P .any l.toArray Q fuel L t w := by
  have hBd := hB.drw
  -- all of the head is done: the tail is next
  have toTail : ∀ {L : Array Bool} {t : Act} {w : World}, (∀ j, j < m → Lst L j) → InvQ r N G P w0 n a ownA tc bs sl Q df l env0 res m E2 K L t w → ∃ j0, m ≤ j0 ∧ (∀ j, j < j0 → j < l.length → Lst L j) ∧ (∀ j, j0 ≤ j → ¬ Lst L j) ∧ wpListIn (fw r) N P l.toArray Q (l.drop j0) t w := by
    intro L t w hall h
    rcases h with ⟨h1, hd, done, rest, nx, own, EB, φ, hbs, hdn, hrs, hch, hoA, hEs, hs, he, heb⟩ | h
    · have hr0 : rest = [] := by
        cases rest with
        | nil => rfl
        | cons b r => exact absurd (hall b (hB.lt b (by rw [hbs]; simp))) (hrs b (by simp))
      subst hr0
      refine ⟨m, Nat.le_refl _, fun j hj _ => hall j hj, h1, tailOk t w φ nx own EB hd hch ⟨hs.below, hs.size, hs.own, hs.inj, fun s d hd => ?_, hs.base, hs.pin⟩⟩
      simp only at hd
      rw [lk_apE] at hd
      split at hd
      · rename_i d' e; cases hd; exact heb s _ e
      · refine he s d ?_
        rcases hE2 s d hd with ⟨j, o, q1, q2, q3, q4⟩ | ⟨q1, q2⟩
        · exact .inl ⟨j, o, q1, hall j q1, q2, q3, q4⟩
        · exact .inr ⟨fun j o hj _ hl => q1 j o hj hl, q2⟩
    · exact h
  have finish : ∀ {L : Array Bool} {t : Act} {w : World}, InvC l L → Region.ready .any l.toArray L = [] → InvQ r N G P w0 n a ownA tc bs sl Q df l env0 res m E2 K L t w → Q .normal t w := by
    intro L t w hI hr h
    have hall := all_listed hBd hI.size hr
    obtain ⟨j0, h1, h2, h3, h4⟩ := toTail (fun j hj => hall j (by omega)) h
    have : l.length ≤ j0 := by
      rcases Nat.lt_or_ge j0 l.length with h | h
      · exact absurd (hall j0 h) (h3 j0 (Nat.le_refl _))
      · exact h
    rw [List.drop_of_length_le this] at h4
    exact h4
  -- a slot of the chain is known to no other operation
  have eLsl : ∀ {L : Array Bool} {t : Nat} {d : D}, eL l env0 res m L t d → t ∈ sl → d = .any := by
    rintro L t d (⟨j, o, q1, q2, q3, q4, q5⟩ | ⟨_, q2⟩) ht
    · obtain ⟨o', d', g1, g2, _, _, g3⟩ := hf j q1
      rw [q3] at g1; cases g1
      rw [q5] at g2; cases g2
      rcases g3 with ⟨_, g3⟩ | ⟨g3, _⟩
      · exact g3
      · exact absurd ht ((hB.rds _ (mem_zip (show (l.take m)[j]? = some o by rw [List.getElem?_take_of_lt q1]; exact q3)) g3).2 t q4)
    · rw [hsl t ht] at q2; cases q2
  have eLnm : ∀ {L : Array Bool} {t : Nat} {d : D}, eL l env0 res m L t d → nmT tc d := by
    rintro L t d (⟨j, o, q1, q2, q3, q4, q5⟩ | ⟨_, q2⟩)
    · obtain ⟨o', d', g1, g2, _, g3, _⟩ := hf j q1
      rw [q5] at g2; cases g2; exact g3
    · exact he0 t d q2
  intro fuel
  induction fuel with
  | zero =>
    intro L t w hI hu h
    have hr : Region.ready .any l.toArray L = [] := by
      rw [List.eq_nil_iff_forall_not_mem]
      intro j hj
      have := unl_set (mem_ready.1 hj).1
      omega
    exact ⟨hr, finish hI hr h⟩
  | succ fuel ih =>
    intro L t w hI hu h
    refine ⟨fun hr => finish hI hr h, fun i hi => ?_⟩
    obtain ⟨hun, o, ho, hp⟩ := mem_ready.1 hi
    have ho' : l[i]? = some o := by simpa using ho
    have hil : i < l.length := (List.getElem?_eq_some_iff.1 ho').1
    have hp' : ∀ e ∈ o.after.toList, Region.binds .any e = true → Lst L e.on := fun e he hb => hp e (by simpa using he) hb
    have hnl := lst_false hun
    have hisz : i < L.size := by rw [hI.size]; exact hil
    have hI' : InvC l (L.setIfInBounds i true) := by
      refine ⟨by simp [hI.size], fun j p hj hl e he hb => ?_⟩
      rw [lst_set hisz] at hl ⊢
      rcases hl with rfl | hl
      · rw [ho'] at hj; cases hj; exact .inr (hp' e he hb)
      · exact .inr (hI.closed j p hj hl e he hb)
    have hu' : unl (L.setIfInBounds i true) ≤ fuel := by have := unl_set hun; omega
    unfold wpOpIn
    rw [ho]
    simp only
    by_cases him : m ≤ i
    · -- the tail
      have hall := tail_all hBd hI.closed ho' him hp'
      obtain ⟨j0, h1, h2, h3, h4⟩ := toTail (fun j hj => hall j (by omega)) h
      obtain rfl : j0 = i := by
        rcases Nat.lt_trichotomy j0 i with hlt | he | hgt
        · exact absurd (hall j0 hlt) (h3 j0 (Nat.le_refl _))
        · exact he
        · exact absurd (h2 i hgt hil) hnl
      rw [List.drop_eq_getElem_cons hil] at h4
      have hoe : l[j0] = o := by rw [List.getElem?_eq_getElem hil] at ho'; exact Option.some.inj ho'
      rw [hoe] at h4
      unfold wpListIn at h4
      have next : ∀ a' w', wpListIn (fw r) N P l.toArray Q (l.drop (j0 + 1)) a' w' → wpAnyIn (fw r) N P .any l.toArray Q fuel (L.setIfInBounds j0 true) a' w' := by
        intro a' w' hw
        refine ih _ a' w' hI' hu' (.inr ⟨j0 + 1, by omega, fun j hj hjl => ?_, fun j hj hl => ?_, hw⟩)
        · rw [lst_set hisz]
          by_cases e : j = j0
          · exact .inl e
          · exact .inr (hall j (by omega))
        · rw [lst_set hisz] at hl
          rcases hl with e | hl
          · omega
          · exact h3 j (by omega) hl
      split at h4
      · rename_i hw; rw [if_pos hw]; exact Oper.wpIn_mono next h4
      · rename_i hw; rw [if_neg hw]; exact ⟨h4.1, next _ _ h4.2⟩
    · -- the head
      have him : i < m := by omega
      rcases h with h | ⟨j0, h1, h2, _⟩
      rotate_left 1
      · exact absurd (h2 i (by omega) hil) hnl
      obtain ⟨hA1, hAd, done, rest, nx, own, EB, φ, hbs, hdn, hrs, hch, hoA, hEs, hs, he, heb⟩ := h
      obtain ⟨o2, d, ho2, hres, hdst, hnmd, hfact⟩ := hf i him
      rw [ho'] at ho2; cases ho2
      have rd : ∀ {s d}, s ∈ rdsO o.op ++ (grdSlot l o).toList → Srd l env0 res i s d → ∃ v, t.tmps[s]? = some v ∧ Rep φ w (FSx φ own w) v d := fun ht h => he _ _ (h.eL hBd him ho' ht hp')
      have hsz : t.tmps.size = n := hs.size
      have lt : ∀ {s e}, eL l env0 res m L s e → s < n := by
        intro s e hx
        obtain ⟨u, hu1, _⟩ := he s e hx
        have := (Array.getElem?_eq_some_iff.1 hu1).1
        omega
      have lkE : ∀ {s e}, eL l env0 res m L s e → lk s (EnvOf n (eL l env0 res m L)) = some e := by
        intro s e hx
        rw [lk_EnvOf, if_pos (lt hx)]
        have hex : ∃ d, eL l env0 res m L s d := ⟨e, hx⟩
        unfold fE
        rw [dif_pos hex]
        rw [eL_fun hBd (Classical.choose_spec hex) hx]
      have ofE : ∀ {s e}, lk s (EnvOf n (eL l env0 res m L)) = some e → eL l env0 res m L s e := by
        intro s e hx
        rw [lk_EnvOf] at hx
        split at hx
        · exact fE_ok hx
        · cases hx
      -- the state behind it
      have step : ∀ {t' : Act} {w' : World} {φ' : Loc} {own' : List (Nat × List D)} {EB' : List (Nat × D)} {nx' : Nat} {done' rest' : List Nat} {v : Value}, t' = t.put o.dst v → bs = done' ++ rest' → (∀ b ∈ done', b = i ∨ Lst L b) → (∀ b ∈ rest', b ≠ i ∧ ¬ Lst L b) →
          chnW G P l n tc sl ownA E2 rest' nx' own' EB' K → (∀ id c, lk id ownA = some c → lk id own' = some c) → (∀ t d, lk t EB' = some d → t ∈ sl) → SatC w0 φ' ⟨n, a, [], own'⟩ t.tmps w' →
          (∀ s d, eL l env0 res m L s d → ∃ v, t.tmps[s]? = some v ∧ Rep φ' w' (FSx φ' own' w') v d) → Rep φ' w' (FSx φ' own' w') v d →
          (∀ s e, lk s EB' = some e → ∃ v', (t.put o.dst v).tmps[s]? = some v' ∧ Rep φ' w' (FSx φ' own' w') v' e) →
          wpAnyIn (fw r) N P .any l.toArray Q fuel (L.setIfInBounds i true) t' w' := by
        rintro t' w' φ' own' EB' nx' done' rest' v rfl hbs' hdn' hrs' hch' hoA' hEs' hs' he' hr heb'
        refine ih _ _ w' hI' hu' (.inl ⟨fun j hj hl => ?_, by rw [put_defers]; exact hAd, done', rest', nx', own', EB', φ', hbs', fun b hb => (lst_set hisz).2 (hdn' b hb), fun b hb hl => ?_, hch', hoA', hEs', ?_, fun s e hte => ?_, heb'⟩)
        · rw [lst_set hisz] at hl
          rcases hl with h | h
          · omega
          · exact hA1 j hj h
        · rcases (lst_set hisz).1 hl with h | h
          · exact (hrs' b hb).1 h
          · exact (hrs' b hb).2 h
        · cases hd : o.dst with
          | none => exact hs'
          | some s => exact ⟨hs'.below, by simp [Act.put, hsz], hs'.own, hs'.inj, fun s d hd => by simp [lk] at hd, hs'.base, hs'.pin⟩
        · have old : o.dst ≠ some s → eL l env0 res m L s e → ∃ v', (t.put o.dst v).tmps[s]? = some v' ∧ Rep φ' w' (FSx φ' own' w') v' e := by
            intro hne hx
            obtain ⟨u, hu1, hu2⟩ := he' s e hx
            refine ⟨u, ?_, hu2⟩
            cases hd : o.dst with
            | none => exact hu1
            | some s' =>
              have : s' ≠ s := fun h => hne (by rw [hd, h])
              simp only [Act.put]
              rw [Array.getElem?_setIfInBounds_ne this]; exact hu1
          have new : o.dst = some s → e = d → ∃ v', (t.put o.dst v).tmps[s]? = some v' ∧ Rep φ' w' (FSx φ' own' w') v' e := by
            intro hd hed
            subst hed
            rw [hd]
            exact ⟨v, by simp only [Act.put]; rw [Array.getElem?_setIfInBounds_self_of_lt (by rw [hsz]; exact hdst s hd)], hr⟩
          rcases hte with ⟨j, p, q1, q2, q3, q4, q5⟩ | ⟨q1, q2⟩
          · rw [lst_set hisz] at q2
            by_cases hji : j = i
            · subst hji
              rw [ho'] at q3; cases q3
              exact new q4 (Option.some.inj (q5.symm.trans hres))
            · have q2 : Lst L j := q2.resolve_left hji
              exact old (fun hd => hji (nodup_dst hBd.nodup q1 him q3 ho' q4 hd)) (.inl ⟨j, p, q1, q2, q3, q4, q5⟩)
          · exact old (q1 i o him (by rw [lst_set hisz]; exact .inl rfl) ho') (.inr ⟨fun j p hj hl hp => q1 j p hj (by rw [lst_set hisz]; exact .inr hl) hp, q2⟩)
      have keep : ∀ {v : Value} {s : Nat} {u : Value}, o.dst ≠ some s → t.tmps[s]? = some u → (t.put o.dst v).tmps[s]? = some u := by
        intro v s u hne hu1
        cases hd : o.dst with
        | none => exact hu1
        | some s' =>
          have : s' ≠ s := fun h => hne (by rw [hd, h])
          simp only [Act.put]
          rw [Array.getElem?_setIfInBounds_ne this]; exact hu1
      -- the guard
      have grdS : ∀ {g : Nat} {want : Bool} {og : Oper} {s : Nat}, o.guard = some (g, want) → l[g]? = some og → og.dst = some s → s ∈ rdsO o.op ++ (grdSlot l o).toList := by
        intro g want og s hg hog hogd; simp [grdSlot, hg, hog, hogd]
      have grdB : ∀ {g : Nat} {want : Bool} {og : Oper} {s : Nat} {c : Bool}, o.guard = some (g, want) → l[g]? = some og → og.dst = some s → (∃ v, t.tmps[s]? = some v ∧ Rep φ w (FSx φ own w) v (.bool c)) → Region.wanted o (yielded l.toArray t.tmps) = (c == want) := by
        rintro g want og s c hg hog hogd ⟨v, hv, hrep⟩
        unfold Region.wanted
        rw [hg]
        simp only
        rw [yielded_at (by rw [hog]; exact hogd) hv, hrep.bool_inv]
        cases c <;> cases want <;> rfl
      have grdN : ∀ {g : Nat} {want : Bool} {og : Oper} {s : Nat}, o.guard = some (g, want) → l[g]? = some og → og.dst = some s → (∃ v, t.tmps[s]? = some v ∧ Rep φ w (FSx φ own w) v (.tup [])) → Region.wanted o (yielded l.toArray t.tmps) = false := by
        rintro g want og s hg hog hogd ⟨v, hv, hrep⟩
        obtain ⟨vs, rfl, _⟩ := hrep.tup_inv
        unfold Region.wanted
        rw [hg]
        simp only
        rw [yielded_at (by rw [hog]; exact hogd) hv]; rfl
      have grd : ∀ {b : Bool}, GO l env0 res i o b → Region.wanted o (yielded l.toArray t.tmps) = b := by
        intro b hgo
        unfold GO at hgo
        split at hgo
        · rename_i hg; unfold Region.wanted; rw [hg]; exact hgo.symm
        · rename_i g want hg
          obtain ⟨og, s, hog, hogd, hc⟩ := hgo
          rcases hc with ⟨c, hsrc, rfl⟩ | ⟨hsrc, rfl⟩
          · exact grdB hg hog hogd (rd (grdS hg hog hogd) hsrc)
          · exact grdN hg hog hogd (rd (grdS hg hog hogd) hsrc)
      -- what is known at the end of what an operation reads, is known here
      have srd2 : ∀ {s e}, s ∈ rdsO o.op ++ (grdSlot l o).toList → lk s E2 = some e → eL l env0 res m L s e := by
        intro s e hs1 hs2
        refine Srd.eL hBd him ho' hs1 hp' ?_
        rcases hE2 s e hs2 with ⟨j, p, q1, q2, q3, q4⟩ | ⟨q1, q2⟩
        · have := hBd.reads _ (mem_zip (show (l.take m)[i]? = some o by rw [List.getElem?_take_of_lt him]; exact ho')) s hs1 _ (mem_zip (show (l.take m)[j]? = some p by rw [List.getElem?_take_of_lt q1]; exact q2)) q3
          exact .inl ⟨j, p, this.1, q2, q3, q4⟩
        · exact .inr ⟨fun j p hj hp => q1 j p (by omega) hp, q2⟩
      rcases hfact with ⟨hib, rfl⟩ | ⟨hib, hfact⟩
      · -- an operation of the chain: it is the next one
        obtain ⟨b, rest, rfl⟩ : ∃ b r, rest = b :: r := by
          cases rest with
          | nil => rw [List.append_nil] at hbs; exact absurd (hdn i (hbs ▸ hib)) hnl
          | cons b r => exact ⟨b, r, rfl⟩
        have hmem : i ∈ b :: rest := by
          rw [hbs] at hib
          rcases List.mem_append.1 hib with h | h
          · exact absurd (hdn i h) hnl
          · exact h
        have hchain : chOk l b rest = true := by
          have h2 := hB.ch
          rw [hbs] at h2
          exact chOk_app h2
        obtain rfl : b = i := by
          rcases List.mem_cons.1 hmem with h | h
          · exact h.symm
          · obtain ⟨x, hx, o2, ho2, hdr⟩ := chOk_pre hchain i h
            rw [ho'] at ho2; cases ho2
            obtain ⟨e, he2, hb2⟩ := List.any_eq_true.1 hdr
            simp only [Bool.and_eq_true, beq_iff_eq] at hb2
            have := hp' e he2 hb2.1
            rw [hb2.2] at this
            exact absurd this (hrs x hx)
        have hnd : (done ++ b :: rest).Nodup := hbs ▸ hB.nodup
        have hbr : b ∉ rest := (List.nodup_cons.1 (List.nodup_append.1 hnd).2.1).1
        obtain ⟨o2, rr, d, pq, nx', own', EB', ho2, hr2, hrr, hEB, hin, hoA2, hpq, hcase, hch2⟩ := hch
        rw [ho'] at ho2; cases ho2
        have hrr2 : ∀ s e, lk s rr = some e → eL l env0 res m L s e := by
          intro s e hx
          have hp1 := lk_mem hx
          exact srd2 (by simp [hrr _ hp1]) (wkE_ok hr2 s e hx)
        have hbs2 : bs = (done ++ [b]) ++ rest := by rw [hbs]; simp
        have hdn2 : ∀ c ∈ done ++ [b], c = b ∨ Lst L c := by
          intro c hc
          rcases List.mem_append.1 hc with h | h
          · exact .inr (hdn c h)
          · exact .inl (by simpa using h)
        have hrs2 : ∀ c ∈ rest, c ≠ b ∧ ¬ Lst L c := fun c hc => ⟨fun e => hbr (e ▸ hc), hrs c (by simp [hc])⟩
        have gdS : ∀ {x : Bool}, gdW l o.guard E2 x → Region.wanted o (yielded l.toArray t.tmps) = x := by
          intro x hg
          unfold gdW at hg
          split at hg
          · rename_i hg2; unfold Region.wanted; rw [hg2]; exact hg.symm
          · rename_i g want hg2
            obtain ⟨og, s, hog, hogd, hc⟩ := hg
            rcases hc with ⟨c, hsrc, rfl⟩ | ⟨hsrc, rfl⟩
            · exact grdB hg2 hog hogd (he _ _ (srd2 (grdS hg2 hog hogd) hsrc))
            · exact grdN hg2 hog hogd (he _ _ (srd2 (grdS hg2 hog hogd) hsrc))
        rcases hcase with ⟨hg, hop⟩ | ⟨hg, rfl, rfl, rfl⟩
        · rw [gdS hg, if_pos rfl]
          have hEn : ∀ s e, lk s (EB ++ (rr ++ EnvOf n (eL l env0 res m L))) = some e → ∃ v, t.tmps[s]? = some v ∧ Rep φ w (FSx φ own w) v e := by
            intro s e hx
            rw [lk_apE] at hx
            split at hx
            · rename_i d' e1; cases hx; exact heb s _ e1
            · rw [lk_apE] at hx
              split at hx
              · rename_i d' e1; cases hx; exact he s _ (hrr2 s _ e1)
              · exact he s e (ofE hx)
          have hs2 : SatC w0 φ ⟨n, nx, EB ++ (rr ++ EnvOf n (eL l env0 res m L)), own⟩ t.tmps w := ⟨hs.below, hs.size, hs.own, hs.inj, fun s d hd => hEn s d hd, hs.base, hs.pin⟩
          refine opW_ok hG hs2 o (hop _) ?_
          rintro v w' ⟨φ', x, S', ⟨rfl, rfl⟩, hs3, hr3, _⟩
          refine step rfl hbs2 hdn2 hrs2 hch2 (fun id c hc => wkO_ok hoA2 id c hc) (inE_ok hin) ⟨hs3.below, hs3.size, hs3.own, hs3.inj, fun s d hd => by simp [lk] at hd, hs3.base, hs3.pin⟩ (fun s e hx => ?_) (.ro (.any v)) fun s e hx => ?_
          · by_cases hany : e = .any
            · subst hany
              obtain ⟨u, hu1, _⟩ := he s _ hx
              exact ⟨u, hu1, .ro (.any u)⟩
            · refine hs3.env s e (lk_pE ?_ fun id hid => nmT_ok (eLnm hx) id (hpq id hid))
              rw [lk_apE]
              have h1 : lk s EB = none := by
                cases e1 : lk s EB with
                | none => rfl
                | some d' => exact absurd (eLsl hx (hEs s d' e1)) hany
              rw [h1]
              simp only
              rw [lk_apE]
              cases e2 : lk s rr with
              | none => exact lkE hx
              | some d' => simp only; rw [eL_fun hBd (hrr2 s d' e2) hx]
          · rcases ebW_ok hEB s e hx with ⟨h1, rfl⟩ | ⟨h1, h2, h3⟩
            · rw [h1]
              exact ⟨v, by simp only [Act.put]; rw [Array.getElem?_setIfInBounds_self_of_lt (by rw [hsz]; exact hdst s h1)], hr3⟩
            · obtain ⟨u, hu1, hu2⟩ := hs3.env s e (lk_pE (by rw [lk_apE, h2]) h3)
              exact ⟨u, keep h1 hu1, hu2⟩
        · rw [gdS hg, if_neg (by simp)]
          refine ⟨fun _ _ => trivial, ?_⟩
          refine step rfl hbs2 hdn2 hrs2 hch2 hoA (inE_ok hin) hs he (.ro (.any _)) fun s e hx => ?_
          rcases ebW_ok hEB s e hx with ⟨h1, rfl⟩ | ⟨h1, h2, h3⟩
          · rw [h1]
            exact ⟨undef, by simp only [Act.put]; rw [Array.getElem?_setIfInBounds_self_of_lt (by rw [hsz]; exact hdst s h1)], .ro (.tup rfl fun i v d hv => by simp [undef] at hv)⟩
          · obtain ⟨u, hu1, hu2⟩ := heb s e h2
            exact ⟨u, keep h1 hu1, hu2⟩
      · -- an operation beside the chain
        have hzip := mem_zip (show (l.take m)[i]? = some o by rw [List.getElem?_take_of_lt him]; exact ho')
        obtain ⟨hrd, hds⟩ := hB.rds _ hzip hib
        have hdsl : ∀ s, s ∈ sl → o.dst ≠ some s := fun s hs h => hds s h hs
        have hrs2 : ∀ b ∈ rest, b ≠ i ∧ ¬ Lst L b := fun b hb => ⟨fun e => hib (by rw [hbs, ← e]; simp [hb]), hrs b hb⟩
        rcases hfact with ⟨hgo, rr, hr, hop⟩ | ⟨hgo, rfl⟩
        · rw [grd hgo, if_pos rfl]
          have hrr2 : ∀ s e, (s, e) ∈ rr → eL l env0 res m L s e := fun s e hx => (hr s e hx).2.eL hBd him ho' (by simp [(hr s e hx).1]) hp'
          have hEn : ∀ s e, lk s (rr ++ (EB ++ EnvOf n (eL l env0 res m L))) = some e → ∃ v, t.tmps[s]? = some v ∧ Rep φ w (FSx φ own w) v e := by
            intro s e hx
            rcases lk_app hx with hx | ⟨_, hx⟩
            · exact he s e (hrr2 s e hx)
            · rw [lk_apE] at hx
              split at hx
              · rename_i d' e1; cases hx; exact heb s _ e1
              · exact he s e (ofE hx)
          have hOO : ∀ j, lk j (ownA ++ own) = lk j own := by
            intro j
            rw [lk_apO]
            cases e : lk j ownA with
            | none => rfl
            | some c => simp only; exact (hoA j c e).symm
          have hs2 : SatC w0 φ ⟨n, a, rr ++ (EB ++ EnvOf n (eL l env0 res m L)), ownA ++ own⟩ t.tmps w :=
            SatC.congr_own (own := own) ⟨hs.below, hs.size, hs.own, hs.inj, fun s d hd => hEn s d hd, hs.base, hs.pin⟩ hOO
          refine opR_ok hG hs2 o (hop _ _) ?_
          rintro v w' ⟨φ', x, S', ⟨rfl, rfl⟩, hs3, hr3, _⟩
          have hs4 : SatC w0 φ' ⟨n, a, rr ++ (EB ++ EnvOf n (eL l env0 res m L)), own⟩ t.tmps w' := SatC.congr_own (own := ownA ++ own) hs3 fun j => (hOO j).symm
          have hFF : ∀ b, FSx φ' (ownA ++ own) w' b → FSx φ' own w' b := fun b hb => ⟨hb.1, fun j c hc => hb.2 j c (by rw [hOO]; exact hc), hb.3⟩
          refine step rfl hbs (fun b hb => .inr (hdn b hb)) hrs2 hch hoA hEs ⟨hs4.below, hs4.size, hs4.own, hs4.inj, fun s d hd => by simp [lk] at hd, hs4.base, hs4.pin⟩ (fun s e hx => ?_) (hr3.mono (fun _ _ => rfl) hFF) fun s e hx => ?_
          · by_cases hany : e = .any
            · subst hany
              obtain ⟨u, hu1, _⟩ := he s _ hx
              exact ⟨u, hu1, .ro (.any u)⟩
            · refine hs4.env s e (lk_app_mk ?_ fun e' he' => eL_fun hBd (hrr2 s e' he') hx)
              rw [lk_apE]
              have h1 : lk s EB = none := by
                cases e1 : lk s EB with
                | none => rfl
                | some d' => exact absurd (eLsl hx (hEs s d' e1)) hany
              rw [h1]
              exact lkE hx
          · obtain ⟨u, hu1, hu2⟩ := hs4.env s e (lk_app_mk (by rw [lk_apE, hx]) fun e' he' => absurd (hEs s e hx) (hrd s (by simp [(hr s e' he').1])))
            exact ⟨u, keep (hdsl s (hEs s e hx)) hu1, hu2⟩
        · rw [grd hgo, if_neg (by simp)]
          refine ⟨fun _ _ => trivial, ?_⟩
          refine step rfl hbs (fun b hb => .inr (hdn b hb)) hrs2 hch hoA hEs hs he (.ro (.tup rfl fun i v d hv => by simp [undef] at hv)) fun s e hx => ?_
          obtain ⟨u, hu1, hu2⟩ := heb s e hx
          exact ⟨u, keep (hdsl s (hEs s e hx)) hu1, hu2⟩
end
/-- A region that draws its order, with a chain. tc: the blocks that the chain turns or makes; sl: the chain's slots; bs: the chain; E0, ownA: what is known to the others; EB: .. to the chain. -/
def rgnC (G : Glob) (P : Program) (l : List Oper) (m : Nat) (tc sl bs : List Nat) (E0 EB : List (Nat × D)) (ownA : List (Nat × List D)) (S : St) (k : St → Prop) : Prop :=
  wkE S.env E0 ∧ wkE S.env EB ∧ wkO S.own ownA ∧ nmTE tc E0 ∧ noEs sl E0 ∧ inE sl EB ∧
    drcW G P l S.n S.nx ownA tc bs (l.take m) 0 E0 fun E2 => chnW G P l S.n tc sl ownA E2 bs S.nx S.own EB fun nx own EB' => opsW G P l (l.drop m) ⟨S.n, nx, EB' ++ E2, own⟩ k
theorem drc_ok {r : Option Nat} {N : Nat} {G : Glob} {P : Program} {w0 : Bas} {w : World} {φ : Loc} {S : St} {a : Act} {k : St → Prop} {Q : Exit → Act → World → Prop} {l : List Oper} {id m : Nat} {tc sl bs : List Nat} {E0 EB : List (Nat × D)} {ownA : List (Nat × List D)} (hG : GOk G w0) (hm : P.follows .mixedOrders = true) (hml : m ≤ l.length) (hB : drcB l m bs sl = true)
    (hs : SatC w0 φ S a.tmps w) (h : rgnC G P l m tc sl bs E0 EB ownA S k) (hn : ∀ S' a' w' φ', k S' → SatC w0 φ' S' a'.tmps w' → S'.n = S.n → a'.defers = a.defers → Q .normal a' w') : (Code.region id l.toArray true).wpIn (fw r) N P Q a w := by
  obtain ⟨h1, h2, h3, h4, h5, h6, h⟩ := h
  have hB := drcB_ok hB
  obtain ⟨res, E2, _, r2, r3, r4, r5⟩ := drc_ext (l := l) (env0 := E0) hml (l.take m) 0 E0 [] rfl (Nat.zero_le _) (by simp) (fun t d hd => .inr ⟨fun j o hj => by omega, hd⟩) h
  refine wpIn_region_any hm ?_
  have hsz : l.toArray.size = l.length := by simp
  rw [hsz]
  have hs2 := hs.drew
  refine drc_run (w0 := w0) (n := S.n) (a := S.nx) (ownA := ownA) (tc := tc) (bs := bs) (sl := sl) (df := a.defers) (res := res) (m := m) (env0 := E0) (E2 := E2) (K := fun nx own EB' => opsW G P l (l.drop m) ⟨S.n, nx, EB' ++ E2, own⟩ k) hG hB hml r2 (fun j hj => r3 j (Nat.zero_le _) hj) (nmTE_ok h4) (noEs_ok h5) r4
    (fun t w φ nx own EB' hd hK hs' => opsW_ok hG hs' hK fun S2 a2 w2 φ2 q1 q2 q3 q4 => hn S2 a2 w2 φ2 q1 q2 q3 (q4.trans hd)) l.length _ a _ ⟨by simp, fun j o hj hl => ?_⟩ ?_ (.inl ⟨fun j hj hl => ?_, rfl, [], bs, S.nx, S.own, EB, φ, rfl, by simp, fun b _ => lst_none, r5, wkO_ok h3, inE_ok h6, ?_, fun s d hd => ?_, fun s d hd => ?_⟩)
  · exact absurd hl lst_none
  · unfold unl; simp
  · exact absurd hl lst_none
  · exact ⟨hs2.below, hs2.size, hs2.own, hs2.inj, fun s d hd => by simp [lk] at hd, hs2.base, hs2.pin⟩
  · rcases hd with ⟨j, o, q1, q2, q3, q4, q5⟩ | ⟨_, q2⟩
    · exact absurd q2 lst_none
    · exact hs2.env s d (wkE_ok h1 s d q2)
  · exact hs2.env s d (wkE_ok h2 s d hd)
#print axioms drc_ok
end Go.Abs
end
