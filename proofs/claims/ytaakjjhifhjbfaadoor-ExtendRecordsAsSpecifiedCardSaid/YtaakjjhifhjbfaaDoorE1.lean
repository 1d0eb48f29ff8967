/-
  EXTEND, the plain laws: councils, pleas, votes, errors.
-/
import Derived.Test.YtaakjjhifhjbfaaDoorH10
namespace Go.Abs
open Go.Proofs
/-- A ballot. -/
structure Bl where
  h : Int
  t : Int
  y : Bool
  s : List UInt8
  hs : s.length = 16
/-- A plea. -/
structure Pl where
  o : Int
  l : Int
  u : Int
  n : Int
  v : List Bl
/-- A council. -/
structure Cn where
  hs : List Int
  ss : List (List UInt8)
  nd : Int
  bd : Int
def blC (v : Bl) : List D := [.int .i64 v.h, .int .i64 v.t, .bool v.y] ++ v.s.map bD
def plC (m : Pl) : List D := [.int .i64 m.o, .int .i64 m.l, .int .i64 m.u, .int .i64 m.n, .sl 19 m.v.length (List.flatMap blC m.v)]
def cnC (c : Cn) : List D := [.sl 1 c.hs.length (c.hs.map (D.int .i64)), .sl 1 c.ss.length (c.ss.map D.str), .int .i64 c.nd, .int .i64 c.bd]

/-! councils -/
def badAt (c : Cn) (k : Nat) : Prop := c.hs.getD k 0 < 0 ∨ 12 ≤ c.hs.getD k 0 ∨ (0 < k ∧ c.hs.getD k 0 ≤ c.hs.getD (k - 1) 0) ∨ ((c.ss.getD k []).length : Int) < 1 ∨ 64 < ((c.ss.getD k []).length : Int)
def framC (c : Cn) : Prop := 1 ≤ c.hs.length ∧ c.hs.length ≤ 12 ∧ c.ss.length = c.hs.length ∧ (c.hs.length : Int) < 2 * c.nd ∧ c.nd ≤ c.hs.length ∧ 1 ≤ c.bd ∧ c.bd ≤ 1000000
def okC (c : Cn) : Prop := framC c ∧ ∀ k, k < c.hs.length → ¬ badAt c k
instance (c : Cn) (k : Nat) : Decidable (badAt c k) := by unfold badAt; infer_instance
instance (c : Cn) : Decidable (framC c) := by unfold framC; infer_instance
instance (c : Cn) : Decidable (okC c) := by unfold okC; infer_instance
def chkC (c : Cn) : Int := if okC c then 0 else 1
theorem chkC_0 {c : Cn} : chkC c = 0 ↔ okC c := by unfold chkC; split <;> simp_all
theorem chkC_yes {c : Cn} (h : okC c) : chkC c = 0 := if_pos h
theorem chkC_no {c : Cn} (h : ¬ okC c) : chkC c = 1 := if_neg h
theorem chkC_bad {c : Cn} {k : Nat} (hk : k < c.hs.length) (h : badAt c k) : chkC c = 1 := if_neg fun g => g.2 k hk h
theorem chkC_frm {c : Cn} (h : ¬ framC c) : chkC c = 1 := if_neg fun g => h g.1
theorem getD_at {α : Type} {l : List α} {k : Nat} {d : α} (h : k < l.length) : l.getD k d = l[k] := by rw [List.getD_eq_getElem?_getD, List.getElem?_eq_getElem h]; rfl
theorem okC_ss {c : Cn} (h : okC c) {k : Nat} (hk : k < c.hs.length) : (c.ss.getD k []).length ≤ 64 := by
  have := h.2 k hk
  unfold badAt at this; omega
theorem okC_hs {c : Cn} (h : okC c) {k : Nat} (hk : k < c.hs.length) : 0 ≤ c.hs.getD k 0 ∧ c.hs.getD k 0 ≤ 11 := by
  have := h.2 k hk
  unfold badAt at this; omega

/-! places -/
def fIdx {α : Type} (p : α → Bool) (xs : List α) : Int := match xs.findIdx? p with | some i => i | none => -1
theorem fIdx_some {α : Type} {p : α → Bool} {xs : List α} {i : Nat} (h : i < xs.length) (h1 : p xs[i] = true) (h2 : ∀ (j : Nat) (hj : j < i), p (xs[j]'(by omega)) = false) : fIdx p xs = i := by
  have e : xs.findIdx? p = some i := by
    rw [List.findIdx?_eq_some_iff_getElem]
    exact ⟨h, h1, fun j hj => by simpa using h2 j hj⟩
  unfold fIdx; rw [e]
theorem fIdx_none {α : Type} {p : α → Bool} {xs : List α} (h2 : ∀ (j : Nat) (hj : j < xs.length), p xs[j] = false) : fIdx p xs = -1 := by
  have e : xs.findIdx? p = none := by
    rw [List.findIdx?_eq_none_iff]
    intro x hx
    obtain ⟨j, hj, rfl⟩ := List.getElem_of_mem hx
    simpa using h2 j hj
  unfold fIdx; rw [e]
theorem fIdx_any {α : Type} {p : α → Bool} {xs : List α} : decide (0 ≤ fIdx p xs) = xs.any p := by
  unfold fIdx
  cases e : xs.findIdx? p with
  | some i =>
    obtain ⟨hi, h1, _⟩ := List.findIdx?_eq_some_iff_getElem.1 e
    have : xs.any p = true := List.any_eq_true.2 ⟨xs[i], List.getElem_mem _, h1⟩
    rw [this]; simp
  | none =>
    rw [List.findIdx?_eq_none_iff] at e
    have : xs.any p = false := by rw [List.any_eq_false]; intro x hx; simpa using e x hx
    rw [this]; simp
theorem fIdx_lt {α : Type} (p : α → Bool) (xs : List α) : -1 ≤ fIdx p xs ∧ fIdx p xs < xs.length := by
  unfold fIdx
  cases e : xs.findIdx? p with
  | some i =>
    obtain ⟨hi, _, _⟩ := List.findIdx?_eq_some_iff_getElem.1 e
    show -1 ≤ (i : Int) ∧ (i : Int) < _
    exact ⟨by omega, by omega⟩
  | none =>
    show -1 ≤ (-1 : Int) ∧ (-1 : Int) < _
    exact ⟨by omega, by omega⟩
def seatI (hs : List Int) (h : Int) : Int := fIdx (fun x => decide (x = h)) hs

/-! votes -/
def flg (b : Bool) : Int := if b then 1 else 0
def txt (l : List Int) : List (List UInt8) := l.map encI
def sealD (c : Cn) (m : Pl) (h t : Int) (y : Bool) : List UInt8 := macD (c.ss.getD (seatI c.hs h).toNat []) (txt [150, m.o, m.l, m.u, m.n, h, t, flg y])
theorem sealD_len (c : Cn) (m : Pl) (h t : Int) (y : Bool) : (sealD c m h t y).length = 16 := macD_len _ _
def frmP (c : Cn) (m : Pl) : Prop := 0 ≤ m.o ∧ m.o ≤ 1099511627776 ∧ 0 ≤ m.n ∧ m.n ≤ m.l ∧ m.l < m.u ∧ m.u ≤ 1000000 ∧ m.u - m.l ≤ c.bd
instance (c : Cn) (m : Pl) : Decidable (frmP c m) := by unfold frmP; infer_instance
def lstT (m : Pl) : Int := match m.v.getLast? with | none => m.n | some x => max m.n x.t
def voE (c : Cn) (m : Pl) (v : Bl) : Int :=
  if seatI c.hs v.h < 0 then 19 else if (m.v.any fun x => decide (x.h = v.h)) = true then 9 else if m.l < v.t then 18 else if v.t < lstT m then 15 else if v.s = sealD c m v.h v.t v.y then 0 else 16
def cutP (m : Pl) (k : Nat) : Pl := ⟨m.o, m.l, m.u, m.n, m.v.take k⟩
def rgtP (c : Cn) (m : Pl) : Prop := okC c ∧ frmP c m ∧ ∀ (k : Nat) (hk : k < m.v.length), voE c (cutP m k) m.v[k] = 0
instance (c : Cn) (m : Pl) : Decidable (rgtP c m) := by unfold rgtP; infer_instance
def opE (c : Cn) (o l u n : Int) : Int := if okC c then (if l < n then 18 else if frmP c ⟨o, l, u, n, []⟩ then 0 else 3) else 1
def slE (c : Cn) (h : Int) : Int := if okC c then (if seatI c.hs h < 0 then 19 else 0) else 1
def slD (c : Cn) (m : Pl) (h t : Int) (y : Bool) : List UInt8 := if slE c h = 0 then sealD c m h t y else List.replicate 16 0
def vtE (c : Cn) (m : Pl) (v : Bl) : Int := if okC c then (if rgtP c m then voE c m v else 1) else 1
def vtP (c : Cn) (m : Pl) (v : Bl) : Pl := if vtE c m v = 0 then ⟨m.o, m.l, m.u, m.n, m.v ++ [v]⟩ else m
def yesN (l : List Bl) : Int := (l.map fun v => flg v.y).sum
def dcE (c : Cn) (m : Pl) (now : Int) : Int := if okC c then (if rgtP c m then (if m.l < now then 18 else if now < lstT m then 15 else if yesN m.v < c.nd then 29 else 0) else 1) else 1
def dcN (c : Cn) (m : Pl) (now : Int) : Int := if dcE c m now = 0 then m.u else 0
def recV (v : Bl) : List (List UInt8) := txt [v.h, v.t, flg v.y] ++ [v.s]
def recD (b : List UInt8) (m : Pl) (now : Int) : List UInt8 := ofD 151 ([b] ++ txt [m.o, m.l, m.u, m.n, now, m.v.length] ++ m.v.flatMap recV)
theorem recD_len (b : List UInt8) (m : Pl) (now : Int) : (recD b m now).length = 16 := ofD_len _ _
/-- An extension. -/
structure Xt where
  p : Pl
  t : Int
  d : List UInt8
  hd : d.length = 16
def xtC (x : Xt) : List D := plC x.p ++ [.int .i64 x.t] ++ x.d.map bD
/-- What the last extension of an object in a chain says. -/
def lastU (l : List Xt) (o : Int) : Option Int := ((l.filter fun x => decide (x.p.o = o)).getLast?).map fun x => x.p.u
/-- The error of the chain's extension k. -/
def xtE (c : Cn) (l : List Xt) (k : Nat) (x : Xt) (b : List UInt8) : Int :=
  if x.d = recD b x.p x.t then (if dcE c x.p x.t = 0 then (match lastU (l.take k) x.p.o with | none => 0 | some u => if u = x.p.l then 0 else 4) else dcE c x.p x.t) else 23
def zeroD : List UInt8 := List.replicate 16 0
def befD (l : List Xt) : Nat → List UInt8
  | 0 => zeroD
  | k + 1 => ((l[k]?).map Xt.d).getD zeroD
theorem txt_len (l : List Int) : (txt l).length = l.length := List.length_map ..
end Go.Abs

