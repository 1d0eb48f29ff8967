/-
  AN ABSTRACT WALK, twenty-second text: from a contract that answers true to the given form of a law.
-/
import Derived.Test.YtccipobbdohdpaaDoorAbs21
import Derived.Below
import Derived.Carry
import Derived.ChangeOld
import Derived.ShutString
namespace Go.Abs
open Go.ChangeShapes Go.WideShapes Go.RowKit Go.ChangeAt

@[reducible] def denL : List C → Type
  | [] => Unit
  | c :: cs => c.den × denL cs
def argsL : (cs : List C) → denL cs → List D
  | [], _ => []
  | c :: cs, x => c.arg x.1 :: argsL cs x.2
def okL : (cs : List C) → denL cs → Prop
  | [], _ => True
  | c :: cs, x => c.ok x.1 ∧ okL cs x.2
def fitsL (P : Program) : List C → List TypeId → Bool
  | [], [] => true
  | c :: cs, t :: ts => c.fits P (.inl t) && fitsL P cs ts
  | _, _ => false

section
variable {H : Type} {enc : TypeId × Value → H} {P : Program} {w : World}

theorem one_inv {F : Nat → Prop} {v : Value} {d : D} (h : CR w F v.cells.toList [d]) (h1 : v.cells = #[v]) : RepR w F v d := by
  rw [h1] at h
  exact (h.2 0 v d rfl rfl).1

theorem read_arg {c : C} {t : TypeId} {v : Value} {d : DataW H} {p : List MemPlace} {base : Nat} (hf : c.fits P (.inl t) = true) (hval : Value.okWide P w .any base t v) (h : DataW.Trod enc P w 0 (fun _ => true) true t v d p) (hs : small P t d) :
    ∃ x : c.den, RepR w (fun b => b < w.heap.size) v (c.arg x) ∧ c.ok x := by
  obtain ⟨fuel, hf2⟩ := h
  obtain ⟨x, hx, hok⟩ := (read_ok (enc := enc) (w := w) c).1 t fuel _ _ hf hf2 hs
  refine ⟨x, ?_, hok⟩
  have agg : ∀ cs : Array Value, v = .agg cs → ∀ ds, CR w (fun b => b < w.heap.size) v.cells.toList ds → RepR w (fun b => b < w.heap.size) v (.agg ds) := by
    rintro cs rfl ds ⟨h1, h2⟩
    exact .agg (by simpa [Value.cells] using h1) (fun i u hu => by
      have hi : i < ds.length := by rw [← h1]; have := (Array.getElem?_eq_some_iff.1 hu).1; simpa [Value.cells] using this
      exact (h2 i u ds[i] (by simpa [Value.cells] using hu) (by simp [hi])).2) fun i u e hu he => (h2 i u e (by simpa [Value.cells] using hu) he).1
  cases c with
  | int k =>
    simp only [C.fits, Bool.and_eq_true] at hf
    obtain ⟨hf, _⟩ := hf
    split at hf
    · rename_i k' hu
      obtain ⟨n, rfl⟩ := okWide_int hu hval
      exact one_inv hx rfl
    · cases hf
  | byte =>
    simp only [C.fits, Bool.and_eq_true] at hf
    obtain ⟨hf, _⟩ := hf
    split at hf
    · rename_i hu
      obtain ⟨n, rfl⟩ := okWide_int hu hval
      exact one_inv hx rfl
    · cases hf
  | bool =>
    simp only [C.fits, Bool.and_eq_true] at hf
    obtain ⟨hf, _⟩ := hf
    split at hf
    · rename_i hu
      have : ∃ b, v = .bool b := by
        simp only [Value.okWide, hu, Cell.okWide] at hval
        cases v <;> simp_all [Cell.ok]
      obtain ⟨b, rfl⟩ := this
      exact one_inv hx rfl
    · cases hf
  | str =>
    simp only [C.fits, Bool.and_eq_true] at hf
    obtain ⟨hf, _⟩ := hf
    split at hf
    · rename_i hu
      obtain ⟨n, rfl⟩ := okWide_string hu hval
      exact one_inv hx rfl
    · cases hf
  | slice e =>
    simp only [C.fits, Bool.and_eq_true] at hf
    obtain ⟨hf, _⟩ := hf
    split at hf
    · rename_i te hu
      obtain ⟨a, len, cap, rfl⟩ := okWide_slice hu hval
      exact one_inv hx rfl
    · cases hf
  | arr n e =>
    simp only [C.fits, Bool.and_eq_true] at hf
    obtain ⟨hf, _⟩ := hf
    split at hf
    · rename_i m te hu
      simp only [Value.okWide, hu] at hval
      obtain ⟨cs, rfl, _⟩ := hval
      exact agg cs rfl _ hx
    · cases hf
  | unit =>
    simp only [C.fits, Bool.and_eq_true] at hf
    obtain ⟨hf, _⟩ := hf
    split at hf
    · rename_i fs hu
      simp only [Value.okWide, hu] at hval
      obtain ⟨cs, rfl, _⟩ := hval
      exact agg cs rfl _ hx
    · cases hf
  | pair a b =>
    simp only [C.fits, Bool.and_eq_true] at hf
    obtain ⟨hf, _⟩ := hf
    split at hf
    · rename_i fs hu
      simp only [Value.okWide, hu] at hval
      obtain ⟨cs, rfl, _⟩ := hval
      exact agg cs rfl _ hx
    · cases hf

theorem args_read {base : Nat} : ∀ {cs : List C} {ts : List TypeId} {vs : List Value} {ds : List (DataW H)} {ps : List MemPlace}, fitsL P cs ts = true → (∀ (j : Nat) t v, ts[j]? = some t → vs[j]? = some v → Value.okWide P w .any base t v) →
    DataW.TrodAll enc P w 0 (fun _ => true) true ts vs ds ps → (∀ n ∈ DataW.weightsEach P ts ds, n ≤ reachBytes) → ∃ xs : denL cs, okL cs xs ∧ FArgs w (fun b => b < w.heap.size) vs (argsL cs xs)
  | [], [], vs, ds, ps, _, _, h, _ => by
    cases vs with
    | nil => exact ⟨(), trivial, rfl, fun i v d hv => by simp at hv⟩
    | cons v vs => cases ds <;> simp [DataW.TrodAll] at h
  | c :: cs, t :: ts, vs, ds, ps, hf, hval, h, hw => by
    simp only [fitsL, Bool.and_eq_true] at hf
    obtain ⟨v, vs', d, ds', p, q, rfl, rfl, rfl, h1, h2⟩ := trodAll_cons h
    obtain ⟨x, hx, hox⟩ := read_arg hf.1 (hval 0 t v rfl rfl) h1 fun n hn => hw n (by simp only [DataW.weightsEach, List.mem_append]; exact .inl hn)
    obtain ⟨xs, hoxs, ha⟩ := args_read (base := base) hf.2 (fun j t v ht hv => hval (j + 1) t v (by simpa using ht) (by simpa using hv)) h2 fun n hn => hw n (by simp only [DataW.weightsEach, List.mem_append]; exact .inr hn)
    refine ⟨(x, xs), ⟨hox, hoxs⟩, by simp [argsL, ha.1], fun i u e hu he => ?_⟩
    cases i with
    | zero => simp [argsL] at hu he; subst hu; subst he; exact hx
    | succ i => exact ha.2 i u e (by simpa using hu) (by simpa [argsL] using he)
  | [], _ :: _, _, _, _, hf, _, _, _ => by simp [fitsL] at hf
  | _ :: _, [], _, _, _, hf, _, _, _ => by simp [fitsL] at hf

theorem trodAll_below (hl : laidOutB P = true) {W W' : World} (hb : Below W.heap.size W W') : ∀ {ts : List TypeId} {vs : List Value} {ds : List (DataW H)} {ps : List MemPlace}, ts.all (fun t => P.readableRec t && decide (t < P.types.size)) = true →
    DataW.TrodAll enc P W 0 (fun _ => true) true ts vs ds ps → DataW.TrodAll enc P W' 0 (fun b => decide (b < W.heap.size)) true ts vs ds ps
  | [], vs, ds, ps, _, h => by
    cases vs <;> cases ds <;> simp_all [DataW.TrodAll]
  | t :: ts, vs, ds, ps, hr, h => by
    simp only [List.all_cons, Bool.and_eq_true, decide_eq_true_eq] at hr
    obtain ⟨v, vs', d, ds', p, q, rfl, rfl, rfl, h1, h2⟩ := trodAll_cons h
    refine ⟨p, q, Below.trod hl hr.1.1 hr.1.2 h1 hb ?_, trodAll_below hl hb hr.2 h2, rfl⟩
    obtain ⟨m, hm⟩ := h1
    exact DataW.trod_lt m _ _ _ hm

theorem contract_of (hl : laidOutB P = true) {fn : Func} {f : FuncId} {s : ChangeSpec} (hr : fn.params.toList.all (fun t => P.readableRec t && decide (t < P.types.size)) = true) {tb : TypeId} (hres : fn.resultTypes = #[tb]) (htb : P.underlying tb = some .bool) (hv : s.vars = [])
    {W : World} {args : Array Value} {ds gs : List (DataW H)} {before : List MemPlace} (hW : DataW.Whole enc P fn.params.toList s.vars false W args.toList ds gs before) (hout : (s.fn H ds).results = [.lit (.bool true)] ∧ (s.fn H ds).args = ds ∧ (s.fn H ds).vars = [])
    {ds' : List D} (ha : FArgs W (fun b => b < W.heap.size) args.toList ds') (hfn : Fn [] P f ds' (.bool true)) : Calls P f args W fun e W' => ∃ v, e = .returned v ∧ s.post enc P fn false true false false W args v W' := by
  have hW' := hW
  obtain ⟨p, q, hA, hV, rfl, hfz, hnd⟩ := hW
  rw [hv] at hV
  obtain ⟨rfl, rfl⟩ := trodVars_none hV
  let b0 : Bas := ⟨W, ⟨fun _ => True, fun _ _ => none⟩, [], fun _ _ => trivial, fun _ => False, fun _ => (none, 0), fun _ => rfl, fun _ h => h.elim, fun g cs h => by simp [lk] at h⟩
  have hc := hfn.2 b0 args.toList rfl (fun _ h => h) ⟨ha.1, fun i v d h1 h2 => (ha.2 i v d h1 h2).mono (fun _ _ => rfl) fun b hb => ⟨trivial, hb⟩⟩
  refine hc.mono fun e W' ⟨v, he, hrep, hb⟩ => ⟨v, he, ?_⟩
  obtain rfl : v = .bool true := by cases hrep; rfl
  refine ⟨ds, [], _, [], p, [], hW', ?_, ?_, ?_, hb.frame _, fun h => by cases h⟩
  · rw [hres, List.append_nil, hout.1]
    exact trodAll_mk1 (shut_bool htb _)
  · rw [List.append_nil, hout.2.1]
    exact trodAll_below hl hb hr hA
  · rw [List.append_nil, hv, hout.2.2]
    rfl
end
#print axioms contract_of
end Go.Abs
