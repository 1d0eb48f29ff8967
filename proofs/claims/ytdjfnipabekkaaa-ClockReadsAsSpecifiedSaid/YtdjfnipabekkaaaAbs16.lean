/-
  AN ABSTRACT WALK, sixteenth text: regions; code without loops.
-/
import Derived.Still
import Derived.Test.YtdjfnipabekkaaaAbs15
namespace Go.Abs
open Go.RowKit (Below)

/-! ### A region -/
def putW (dst : Option Tmp) (d : D) (S : St) (k : St → Prop) : Prop :=
  match dst with
  | none => k S
  | some s => s < S.n ∧ k ⟨S.n, S.nx, (s, d) :: S.env, S.own⟩

def dstW (ops : List Oper) (j : Nat) (k : Nat → Prop) : Prop := match ops[j]? with | some ⟨some s, _, _, _, _, _⟩ => k s | _ => False

/-- An operation's guard: A where it is done, B where it is passed by. -/
def grdW (ops : List Oper) (g : Option (Nat × Bool)) (S : St) (A B : St → Prop) : Prop :=
  match g with
  | none => A S
  | some (j, want) => dstW ops j fun s => lkW s S.env fun d => match d with
    | .bool c => (c = want → A ⟨S.n, S.nx, (s, .bool want) :: S.env, S.own⟩) ∧ (¬ c = want → B ⟨S.n, S.nx, (s, .bool !want) :: S.env, S.own⟩)
    | .tup [] => B S
    | _ => False

def opsW (G : Glob) (P : Program) (ops : List Oper) : List Oper → St → (St → Prop) → Prop
  | [], S, k => k S
  | o :: rest, S, k => grdW ops o.guard S (fun S => opW G P o.op S fun d S => putW o.dst d S fun S => opsW G P ops rest S k) fun S => putW o.dst (.tup []) S fun S => opsW G P ops rest S k

theorem putW_ok {w0 : Bas} {w : World} {φ : Loc} {S : St} {tmps : Array Value} {dst : Option Tmp} {v : Value} {d : D} {k : St → Prop} (hs : SatC w0 φ S tmps w) (hr : Rep φ w (FSx φ S.own w) v d) (h : putW dst d S k) :
    ∃ S', k S' ∧ S'.n = S.n ∧ ∀ df, SatC w0 φ S' (Act.put ⟨tmps, df⟩ dst v).tmps w := by
  cases dst with
  | none => exact ⟨S, h, rfl, fun _ => hs⟩
  | some s => exact ⟨_, h.2, rfl, fun _ => hs.put h.1 hr⟩

theorem put_defers (a : Act) (dst : Option Tmp) (v : Value) : (a.put dst v).defers = a.defers := by cases dst <;> rfl

theorem dstW_ok {ops : List Oper} {j : Nat} {k : Nat → Prop} (h : dstW ops j k) : ∃ s, (ops[j]?).bind (·.dst) = some s ∧ k s := by
  unfold dstW at h
  split at h
  · rename_i s _ _ _ _ _ e; exact ⟨s, by rw [e]; rfl, h⟩
  · exact h.elim

def vbool (v : Value) : Option Bool := match v with | .bool b => some b | _ => none
theorem yielded_at {ops : List Oper} {tmps : Array Value} {j s : Nat} {v : Value} (h : (ops[j]?).bind (·.dst) = some s) (hv : tmps[s]? = some v) : yielded ops.toArray tmps j = vbool v := by
  unfold yielded vbool
  rw [List.getElem?_toArray, h]
  simp only [Option.bind_some, hv]
  split
  · rename_i h1; cases h1; rfl
  · rename_i h1; split
    · exact absurd rfl (h1 _)
    · rfl

/-- What a guard's two arms mean. -/
theorem grdW_ok {w0 : Bas} {w : World} {φ : Loc} {S : St} {tmps : Array Value} {ops : List Oper} {o : Oper} {A B : St → Prop} (hs : SatC w0 φ S tmps w) (h : grdW ops o.guard S A B) :
    (Region.wanted o (yielded ops.toArray tmps) = true ∧ ∃ S', A S' ∧ S'.n = S.n ∧ SatC w0 φ S' tmps w) ∨ (Region.wanted o (yielded ops.toArray tmps) = false ∧ ∃ S', B S' ∧ S'.n = S.n ∧ SatC w0 φ S' tmps w) := by
  unfold grdW at h
  split at h
  · rename_i e
    exact .inl ⟨by simp [Region.wanted, e], S, h, rfl, hs⟩
  · rename_i j want e
    obtain ⟨s, hj, h⟩ := dstW_ok h
    obtain ⟨d, hd, h⟩ := lkW_ok h
    obtain ⟨v, hv, hr⟩ := hs.env s d hd
    have hy := yielded_at hj hv
    have set : ∀ b, v = .bool b → SatC w0 φ ⟨S.n, S.nx, (s, .bool b) :: S.env, S.own⟩ tmps w := fun b hb => by
      refine ⟨hs.below, hs.size, hs.own, hs.inj, fun t e he => ?_, hs.base, hs.pin⟩
      simp only [lk] at he
      split at he
      · rename_i e1; cases he; subst e1; exact ⟨v, hv, hb ▸ .ro .bool⟩
      · exact hs.env t e he
    split at h
    · rename_i c
      have e2 := hr.bool_inv
      subst e2
      by_cases hc : c = want
      · refine .inl ⟨by simp [Region.wanted, e, hy, hc, vbool], _, h.1 hc, rfl, set _ (by rw [hc])⟩
      · refine .inr ⟨by simp [Region.wanted, e, hy, hc, vbool], _, h.2 hc, rfl, set _ (by cases c <;> cases want <;> simp_all)⟩
    · refine .inr ⟨?_, S, h, rfl, hs⟩
      have : v = .tuple #[] := by
        cases hr with
        | ro hr => cases hr with
          | tup a _ => exact congrArg _ (Array.eq_empty_of_size_eq_zero (by simpa using a))
      rw [this] at hy
      simp [Region.wanted, e, hy, vbool]
    · exact h.elim

section
variable {P : Program} {G : Glob} {w0 : Bas} {Q : Exit → Act → World → Prop} {r : Option Nat} {N : Nat}

theorem opsW_ok (hG : GOk G w0) {ops : List Oper} : ∀ {l : List Oper} {S : St} {a : Act} {w : World} {φ : Loc} {k : St → Prop}, SatC w0 φ S a.tmps w → opsW G P ops l S k →
    (∀ S' a' w' φ', k S' → SatC w0 φ' S' a'.tmps w' → S'.n = S.n → a'.defers = a.defers → Q .normal a' w') → wpListIn (fw r) N P ops.toArray Q l a w
  | [], S, a, w, φ, k, hs, h, hn => hn _ _ _ _ h hs rfl rfl
  | o :: rest, S, a, w, φ, k, hs, h, hn => by
    unfold wpListIn
    rcases grdW_ok hs h with ⟨hw, S1, h1, n1, hs1⟩ | ⟨hw, S1, h1, n1, hs1⟩
    · rw [if_pos hw]
      refine opW_ok hG hs1 o h1 ?_
      rintro v w' ⟨φ', d, S2, h2, hs2, hr, n2⟩
      obtain ⟨S3, h3, n3, hs3⟩ := putW_ok hs2 hr h2
      exact opsW_ok hG (a := a.put o.dst v) (hs3 a.defers) h3 fun S' a' w' φ' hk hs' hnn hd => hn S' a' w' φ' hk hs' (by rw [hnn, n3, n2, n1]) (by rw [hd, put_defers])
    · rw [if_neg (by rw [hw]; simp)]
      obtain ⟨S3, h3, n3, hs3⟩ := putW_ok hs1 (v := undef) (.ro (.tup (ds := []) rfl fun i v d hv => by simp at hv)) h1
      refine ⟨fun _ _ => trivial, ?_⟩
      exact opsW_ok hG (a := a.put o.dst undef) (hs3 a.defers) h3 fun S' a' w' φ' hk hs' hnn hd => hn S' a' w' φ' hk hs' (by rw [hnn, n3, n1]) (by rw [hd, put_defers])

end

/-! ### Operations that turn nothing -/
section
variable {P : Program} {G : Glob} {w0 : Bas} {w : World} {S : St} {a : Act} {k : D → St → Prop} {φ : Loc}

def quiet : Op → Bool
  | .move _ | .assign _ | .pick .. | .nilCheck _ | .binOp .. | .unOp .. | .extract .. | .load .. | .indexAddr .. | .fieldAddr .. | .field .. | .index .. | .slice .. | .sliceToArrayPointer .. => true
  | .call { callee := .builtin .len, .. } => true
  | _ => false

set_option maxHeartbeats 1000000 in
theorem opQ_ok (hG : GOk G w0) (hs : SatC w0 φ S a.tmps w) (o : Oper) (hq : quiet o.op = true) (h : opW G P o.op S k) : ∃ v d, (execOp a.eval o).run P w = .ok (.value v) w ∧ k d S ∧ Rep φ w (FSx φ S.own w) v d := by
  obtain ⟨dst, op, ty, pos, after, guard⟩ := o
  have fin : ∀ {v d}, (execOp a.eval ⟨dst, op, ty, pos, after, guard⟩).run P w = .ok (.value v) w → (k d S ∧ Rep φ w (FSx φ S.own w) v d) → ∃ v d, (execOp a.eval ⟨dst, op, ty, pos, after, guard⟩).run P w = .ok (.value v) w ∧ k d S ∧ Rep φ w (FSx φ S.own w) v d := fun hr hl => ⟨_, _, hr, hl⟩
  cases op with
  | move x =>
    obtain ⟨d, hk, hd⟩ := evW_ok hG hs h
    exact fin rfl (And.intro hk hd)
  | assign x =>
    obtain ⟨d, hk, hd⟩ := evW_ok hG hs h
    exact fin rfl (And.intro hk hd)
  | pick c x y =>
    obtain ⟨d, h, hd⟩ := evW_ok hG hs h
    cases d with
    | bool t =>
      have e := hd.bool_inv
      cases t with
      | true =>
        obtain ⟨d, hk, hd⟩ := evW_ok hG hs h
        exact fin (by simp [execOp, e, asBool]) (And.intro hk hd)
      | false =>
        obtain ⟨d, hk, hd⟩ := evW_ok hG hs h
        exact fin (by simp [execOp, e, asBool]) (And.intro hk hd)
    | _ => exact h.elim
  | nilCheck x =>
    obtain ⟨d, h, hd⟩ := evW_ok hG hs h
    obtain ⟨hk, ⟨p, e⟩ | ⟨f, c, e⟩⟩ := ncW_ok hd h
    · exact fin (by simp only [execOp, e]; rfl) (And.intro hk hd)
    · exact fin (by simp only [execOp, e]; rfl) (And.intro hk hd)
  | binOp op t x y yt =>
    obtain ⟨dx, h, hx⟩ := evW_ok hG hs h
    obtain ⟨dy, h, hy⟩ := evW_ok hG hs h
    obtain ⟨v, d, hrun, hk, hr⟩ := bnW_ok (P := P) hx hy h x y
    exact fin (by simp only [execOp, Sem.run_bind] at hrun ⊢; rw [hrun]; rfl) (And.intro hk (.ro hr))
  | unOp op t x =>
    obtain ⟨dx, h, hx⟩ := evW_ok hG hs h
    obtain ⟨v, d, hrun, hk, hr⟩ := unW_ok (P := P) (w := w) hx h
    exact fin (by simp only [execOp, Sem.run_bind, hrun]; rfl) (And.intro hk (.ro hr))
  | extract x i =>
    obtain ⟨dx, h, hx⟩ := evW_ok hG hs h
    obtain ⟨v, d, hrun, hk, hr⟩ := exW_ok (P := P) (w := w) hx h
    exact fin (by simp only [execOp, Sem.run_bind, hrun]; rfl) (And.intro hk (.ro hr))
  | load t p =>
    obtain ⟨dx, h, hx⟩ := evW_ok hG hs h
    simp only [tyW] at h
    obtain ⟨i, hi, h⟩ := szW_ok h
    unfold opW.agTyW at h
    split at h
    · rename_i ag hag
      obtain ⟨v, d, hrun, hk, hr⟩ := loadW_ok (P := P) hs hx hag hi h
      exact fin (by simp only [execOp, Sem.run_bind, hrun]; rfl) (And.intro hk hr)
    · exact h.elim
  | indexAddr t x i =>
    obtain ⟨dx, h, hx⟩ := evW_ok hG hs h
    obtain ⟨di, h, hi⟩ := evW_ok hG hs h
    simp only [tyW] at h
    unfold opW.elTyW at h
    split at h
    · rename_i e he
      obtain ⟨inf, hinf, h⟩ := szW_ok h
      obtain ⟨v, d, hrun, hk, hr⟩ := ixW_ok (P := P) hs hinf (.inr he) hx hi h
      exact fin (by simp only [execOp, Sem.run_bind, hrun]; rfl) (And.intro hk hr)
    · rename_i n e he
      obtain ⟨inf, hinf, h⟩ := szW_ok h
      obtain ⟨v, d, hrun, hk, hr⟩ := ixW_ok (P := P) hs hinf (.inl ⟨_, he⟩) hx hi h
      exact fin (by simp only [execOp, Sem.run_bind, hrun]; rfl) (And.intro hk hr)
    · exact h.elim
  | fieldAddr t x f =>
    obtain ⟨dx, h, hx⟩ := evW_ok hG hs h
    obtain ⟨v, d, hrun, hk, hr⟩ := faW_ok (P := P) hs hx h
    exact fin (by simp only [execOp, Sem.run_bind, hrun]; rfl) (And.intro hk hr)
  | field t x f =>
    obtain ⟨dx, h, hx⟩ := evW_ok hG hs h
    have h' : fldW P t f fun o ft => szW P ft fun n => ∃ ag, isAg (tyOf P ft) = some ag ∧ fvW dx ag n o fun d => k d S := by
      obtain ⟨fa, fx, q1, q2, h⟩ := fldW_ok h
      have e : fldW P t f = fun kk => kk fx.offset fx.type := by
        funext kk
        have ht : tyOf P t = .struct (fa.toList.map fun f => (f.offset, f.type)) := by simp [tyOf, q1]
        simp [fldW, ht, q2]
      rw [e]
      obtain ⟨i, hi, h⟩ := szW_ok h
      simp only [tyW] at h
      unfold opW.agTyW at h
      split at h
      · rename_i ag hag
        simp only [szW, hi]
        exact ⟨ag, hag, h⟩
      · exact h.elim
    obtain ⟨v, d, hrun, hk, hr⟩ := fieldW_ok (P := P) hx h'
    exact fin (by simp only [execOp, Sem.run_bind, hrun]; rfl) (And.intro hk hr)
  | index t x i =>
    obtain ⟨dx, h, hx⟩ := evW_ok hG hs h
    obtain ⟨di, h, hi⟩ := evW_ok hG hs h
    simp only [tyW] at h
    unfold opW.inW at h
    split at h
    · rename_i ht
      cases di with
      | int kk n =>
        cases dx with
        | str s =>
          have h : 0 ≤ n ∧ ∃ h : n.toNat < s.length, k (.int .u8 (s[n.toNat]'h).toNat) S := by rw [ht] at h; exact h
          obtain ⟨v, d, hrun, hk, hr⟩ := inx_str_ok (P := P) (k := fun d => k d S) ht hx hi rfl h
          exact fin (by simp only [execOp, Sem.run_bind, hrun]; rfl) (And.intro hk hr)
        | _ => rw [ht] at h; exact h.elim
      | _ => exact h.elim
    · rename_i len e ht
      obtain ⟨inf, hinf, h⟩ := szW_ok h
      cases di with
      | int kk n =>
        have h : 0 ≤ n ∧ n < len ∧ ∃ a, isAg (tyOf P e) = some a ∧ fvW dx a inf.size (n.toNat * inf.size) fun d => k d S := by
          rw [ht] at h; cases dx <;> exact h
        obtain ⟨v, d, hrun, hk, hr⟩ := inx_arr_ok (P := P) ht hinf hx hi rfl h
        exact fin (by simp only [execOp, Sem.run_bind, hrun]; rfl) (And.intro hk hr)
      | _ => exact h.elim
    · exact h.elim
  | slice t x lo hi mx =>
    obtain ⟨dx, h, hx⟩ := evW_ok hG hs h
    obtain ⟨l, h, hl⟩ := boD_ok (F := fun _ => True) hG hs h
    obtain ⟨hh, h, hhi⟩ := boD_ok (F := fun _ => True) hG hs h
    obtain ⟨m, h, hm⟩ := boD_ok (F := fun _ => True) hG hs h
    simp only [tyW] at h
    unfold opW.seTyW at h
    have : ∃ e sz, ((∃ i, P.info? e = some i ∧ i.size = sz) ∧ (tyOf P t = .slice e ∨ ∃ n, tyOf P t = .arr n e) ∨ tyOf P t = .str) ∧ slcW (S := S) (tyOf P t) sz dx l hh m fun d => k d S := by
      split at h
      · rename_i ht
        exact ⟨0, 1, .inr ht, h⟩
      · rename_i e ht
        obtain ⟨i, hi, h⟩ := szW_ok h
        exact ⟨e, _, .inl ⟨⟨i, hi, rfl⟩, .inl ht⟩, h⟩
      · rename_i n e ht
        obtain ⟨i, hi, h⟩ := szW_ok h
        exact ⟨e, _, .inl ⟨⟨i, hi, rfl⟩, .inr ⟨n, ht⟩⟩, h⟩
      · exact h.elim
    obtain ⟨e, sz, hi, h⟩ := this
    obtain ⟨v, d, hrun, hk, hr⟩ := slcW_ok (P := P) hs hi hx hl hhi hm h
    exact fin (by simp only [execOp, Sem.run_bind, hrun]; rfl) (And.intro hk hr)
  | sliceToArrayPointer t x =>
    obtain ⟨dx, h, hx⟩ := evW_ok hG hs h
    simp only [tyW] at h
    unfold arTyW at h
    split at h
    · rename_i n e ht
      obtain ⟨v, d, hrun, hk, hr⟩ := s2aW_ok (P := P) ht hx h
      exact fin (by simp only [execOp, Sem.run_bind, hrun]; rfl) (And.intro hk hr)
    · exact h.elim
  | call c =>
    obtain ⟨callee, args, argTypes⟩ := c
    cases callee with
    | builtin b =>
      cases b <;> simp only [quiet, reduceCtorEq] at hq
      obtain ⟨ds, h, hl, hr⟩ := evLW_ok hG hs h
      unfold builtinW at h
      split at h
      · rename_i t d _ e1
        obtain ⟨x, hx⟩ : ∃ x, args.toList.map a.eval = [x] := by
          rcases hq : args.toList.map a.eval with _ | ⟨x, _ | ⟨y, r⟩⟩
          · rw [hq] at hl; simp at hl
          · exact ⟨x, rfl⟩
          · rw [hq] at hl; simp at hl
        have vals : args.map a.eval = (args.toList.map a.eval).toArray := by apply Array.ext'; simp
        have tys : argTypes = argTypes.toList.toArray := by simp
        obtain ⟨v, d', hrun, hk, hr'⟩ := lnW_ok (P := P) (T := t) (ty := ty) (k := fun d => k d S) (hr 0 x d (by rw [hx]; rfl) rfl) h
        refine fin ?_ (And.intro hk (.ro hr'))
        simp only [execOp, resolve, Sem.run_bind, Sem.run_pure, Result.andThen_ok, invoke]
        rw [vals, hx, tys, e1]
        simp only [builtin, Sem.run_bind, hrun]; rfl
      all_goals first | exact h.elim | (rename_i h1; exact absurd h1 (by simp)) | (rename_i h1 _; exact absurd h1 (by simp))
    | _ => simp [quiet] at hq
  | _ => simp [quiet] at hq

theorem opsQ_ok (hG : GOk G w0) {ops : List Oper} {Q : Act → Prop} : ∀ {l : List Oper} {S : St} {a : Act} {k : St → Prop}, SatC w0 φ S a.tmps w → l.all (fun o => quiet o.op) = true → opsW G P ops l S k →
    (∀ S' a', k S' → SatC w0 φ S' a'.tmps w → S'.n = S.n → a'.defers = a.defers → Q a') → wpStill P ops.toArray w Q l a
  | [], S, a, k, hs, _, h, hn => hn _ _ h hs rfl rfl
  | o :: rest, S, a, k, hs, hq, h, hn => by
    simp only [List.all_cons, Bool.and_eq_true] at hq
    unfold wpStill
    rcases grdW_ok hs h with ⟨hw, S1, h1, n1, hs1⟩ | ⟨hw, S1, h1, n1, hs1⟩
    · rw [if_pos hw]
      obtain ⟨v, d, hrun, h2, hr⟩ := opQ_ok hG hs1 o hq.1 h1
      obtain ⟨S3, h3, n3, hs3⟩ := putW_ok hs1 hr h2
      unfold Oper.still
      rw [hrun, Oper.stillUpon_value]
      exact opsQ_ok hG (a := a.put o.dst v) (hs3 a.defers) hq.2 h3 fun S' a' hk hs' hnn hd => hn S' a' hk hs' (by rw [hnn, n3, n1]) (by rw [hd, put_defers])
    · rw [if_neg (by rw [hw]; simp)]
      obtain ⟨S3, h3, n3, hs3⟩ := putW_ok hs1 (v := undef) (.ro (.tup (ds := []) rfl fun i v d hv => by simp at hv)) h1
      exact opsQ_ok hG (a := a.put o.dst undef) (hs3 a.defers) hq.2 h3 fun S' a' hk hs' hnn hd => hn S' a' hk hs' (by rw [hnn, n3, n1]) (by rw [hd, put_defers])
end

#print axioms opsQ_ok
#print axioms opsW_ok
end Go.Abs
