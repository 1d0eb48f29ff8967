/-
  HASH, plain: words, rounds, blocks, streams. No program in sight.
-/
import Derived.Test.YtaakjjhifhjbfaaDoorTy
namespace Go.Abs
def ad (a b : Nat) : Nat := (a + b) % 4294967296
def xo (a b : Nat) : Nat := (a ^^^ b) % 4294967296
def an (a b : Nat) : Nat := (a &&& b) % 4294967296
def oo (a b : Nat) : Nat := (a ||| b) % 4294967296
def sL (a n : Nat) : Nat := (a <<< n) % 4294967296
def sR (a n : Nat) : Nat := a >>> n
def rr (x n : Nat) : Nat := oo (sR x n) (sL x (32 - n))
theorem ofInt32 (a : Nat) : (BitVec.ofInt 32 (a : Int)).toNat = a % 4294967296 := by
  rw [BitVec.toNat_ofInt]
  omega
theorem u32_wrap (a : Nat) : IntKind.u32.wrap (a : Int) = ((a % 4294967296 : Nat) : Int) := by
  rw [IntKind.wrap_u32]
  omega
theorem u32_add (a b : Nat) : IntKind.u32.wrap ((a : Int) + (b : Int)) = ((ad a b : Nat) : Int) := by
  rw [← Int.natCast_add, u32_wrap]; rfl
theorem u32_xor (a b : Nat) : bits .xor .u32 (a : Int) (b : Int) = ((xo a b : Nat) : Int) := by
  show IntKind.u32.wrap ((BitVec.ofInt 32 (a : Int) ^^^ BitVec.ofInt 32 (b : Int)).toNat : Int) = _
  rw [BitVec.toNat_xor, ofInt32, ofInt32, u32_wrap, show (4294967296 : Nat) = 2 ^ 32 from rfl, ← Nat.xor_mod_two_pow, Nat.mod_mod]; rfl
theorem u32_and (a b : Nat) : bits .and .u32 (a : Int) (b : Int) = ((an a b : Nat) : Int) := by
  show IntKind.u32.wrap ((BitVec.ofInt 32 (a : Int) &&& BitVec.ofInt 32 (b : Int)).toNat : Int) = _
  rw [BitVec.toNat_and, ofInt32, ofInt32, u32_wrap, show (4294967296 : Nat) = 2 ^ 32 from rfl, ← Nat.and_mod_two_pow, Nat.mod_mod]; rfl
theorem u32_or (a b : Nat) : bits .or .u32 (a : Int) (b : Int) = ((oo a b : Nat) : Int) := by
  show IntKind.u32.wrap ((BitVec.ofInt 32 (a : Int) ||| BitVec.ofInt 32 (b : Int)).toNat : Int) = _
  rw [BitVec.toNat_or, ofInt32, ofInt32, u32_wrap, show (4294967296 : Nat) = 2 ^ 32 from rfl, ← Nat.or_mod_two_pow, Nat.mod_mod]; rfl
theorem u32_un (a : Nat) : bits .xor .u32 (if IntKind.u32.signed = true then -1 else IntKind.u32.max) (a : Int) = ((xo 4294967295 a : Nat) : Int) := u32_xor 4294967295 a
theorem xo_comm (a b : Nat) : xo a b = xo b a := by unfold xo; rw [Nat.xor_comm]
theorem oo_comm (a b : Nat) : oo a b = oo b a := by unfold oo; rw [Nat.or_comm]
theorem u32_shl (a n : Nat) (h : n ≤ 32) : shlI .u32 (a : Int) (n : Int) = ((sL a n : Nat) : Int) := by
  unfold shlI sL
  rw [show min (n : Int).toNat IntKind.u32.bits = n from by rw [Int.toNat_natCast]; exact Nat.min_eq_left h, Nat.shiftLeft_eq, ← u32_wrap, Int.natCast_mul, Int.natCast_pow]
  rfl
theorem u32_shr (a n : Nat) (h : n ≤ 32) : shrI .u32 (a : Int) (n : Int) = ((sR a n : Nat) : Int) := by
  unfold shrI sR
  rw [show min (n : Int).toNat IntKind.u32.bits = n from by rw [Int.toNat_natCast]; exact Nat.min_eq_left h, Nat.shiftRight_eq_div_pow, Int.natCast_ediv, Int.natCast_pow]
  rfl
/-- The rotation's count: 32 - n of a negative n. -/
theorem rot_cnt {n : Nat} (h : n < 32) (h0 : 0 < n) : bits .and .u64 (IntKind.u64.wrap (-(n : Int))) 31 = ((32 - n : Nat) : Int) := by
  have : ∀ j : Fin 32, 0 < j.1 → bits .and .u64 (IntKind.u64.wrap (-((j.1 : Nat) : Int))) 31 = ((32 - j.1 : Nat) : Int) := by decide +kernel
  exact this ⟨n, h⟩ h0
/-- The constants of the rounds. -/
def kt : List Nat := [0x428a2f98, 0x71374491, 0xb5c0fbcf, 0xe9b5dba5, 0x3956c25b, 0x59f111f1, 0x923f82a4, 0xab1c5ed5,
  0xd807aa98, 0x12835b01, 0x243185be, 0x550c7dc3, 0x72be5d74, 0x80deb1fe, 0x9bdc06a7, 0xc19bf174,
  0xe49b69c1, 0xefbe4786, 0x0fc19dc6, 0x240ca1cc, 0x2de92c6f, 0x4a7484aa, 0x5cb0a9dc, 0x76f988da,
  0x983e5152, 0xa831c66d, 0xb00327c8, 0xbf597fc7, 0xc6e00bf3, 0xd5a79147, 0x06ca6351, 0x14292967,
  0x27b70a85, 0x2e1b2138, 0x4d2c6dfc, 0x53380d13, 0x650a7354, 0x766a0abb, 0x81c2c92e, 0x92722c85,
  0xa2bfe8a1, 0xa81a664b, 0xc24b8b70, 0xc76c51a3, 0xd192e819, 0xd6990624, 0xf40e3585, 0x106aa070,
  0x19a4c116, 0x1e376c08, 0x2748774c, 0x34b0bcb5, 0x391c0cb3, 0x4ed8aa4a, 0x5b9cca4f, 0x682e6ff3,
  0x748f82ee, 0x78a5636f, 0x84c87814, 0x8cc70208, 0x90befffa, 0xa4506ceb, 0xbef9a3f7, 0xc67178f2]
theorem coe_int {S : St} {kk : IntKind} {g : List D → Bool → Prop} (xs : List Int) : coeL S (xs.map (D.int kk)) g = g (xs.map (D.int kk)) false := by
  induction xs generalizing g with
  | nil => rfl
  | cons b r ih => simp only [List.map_cons, coeL]; show coeS S (D.int kk b) _ = _; rw [show coeS S (D.int kk b) (fun d' b' => coeL S (r.map (D.int kk)) fun r' b'' => g (d' :: r') (b' || b'')) = coeL S (r.map (D.int kk)) fun r' b'' => g (D.int kk b :: r') (false || b'') from rfl, ih]; rfl
/-- Words as cells. -/
def wI (ws : List Nat) : List Int := ws.map fun (n : Nat) => (n : Int)
theorem wI_len (ws : List Nat) : (wI ws).length = ws.length := List.length_map _
theorem wI_get {ws : List Nat} {i : Nat} (h : i < (wI ws).length) : (wI ws)[i] = ((ws[i]'(by simpa [wI] using h) : Nat) : Int) := by simp [wI]
/-- The first bytes of a word. -/
def wP (b : List UInt8) (t j : Nat) : Nat := ((b.drop (4 * t)).take j).foldl (fun a x => oo (sL a 8) x.toNat) 0
theorem wP_s {b : List UInt8} {t j : Nat} (h : 4 * t + j < b.length) : wP b t (j + 1) = oo (sL (wP b t j) 8) b[4 * t + j].toNat := by
  unfold wP
  have hj : j < (b.drop (4 * t)).length := by rw [List.length_drop]; omega
  rw [List.take_add_one, List.getElem?_eq_getElem hj, List.foldl_append, List.getElem_drop]
  rfl
def sg0 (x : Nat) : Nat := xo (xo (rr x 7) (rr x 18)) (sR x 3)
def sg1 (x : Nat) : Nat := xo (xo (rr x 17) (rr x 19)) (sR x 10)
def wN (b : List UInt8) (w : List Nat) (t : Nat) : Nat :=
  if t < 16 then wP b t 4 else ad (ad (ad (w.getD (t - 16) 0) (sg0 (w.getD (t - 15) 0))) (w.getD (t - 7) 0)) (sg1 (w.getD (t - 2) 0))
/-- The schedule's first words. -/
def sch (b : List UInt8) : Nat → List Nat
  | 0 => []
  | t + 1 => sch b t ++ [wN b (sch b t) t]
theorem sch_len (b : List UInt8) : ∀ t, (sch b t).length = t
  | 0 => rfl
  | t + 1 => by rw [sch, List.length_append, sch_len b t]; rfl
structure S8 where
  a : Nat
  b : Nat
  c : Nat
  d : Nat
  e : Nat
  f : Nat
  g : Nat
  h : Nat
def mx (x i j k : Nat) : Nat := xo (xo (rr x i) (rr x j)) (rr x k)
def rX (s : S8) (k w : Nat) : Nat := ad (ad (ad (ad s.h (mx s.e 6 11 25)) (xo (an s.e s.f) (an (xo 4294967295 s.e) s.g))) k) w
def rY (s : S8) : Nat := ad (mx s.a 2 13 22) (xo (xo (an s.a s.b) (an s.a s.c)) (an s.b s.c))
def rnd (s : S8) (k w : Nat) : S8 := ⟨ad (rX s k w) (rY s), s.a, s.b, s.c, ad s.d (rX s k w), s.e, s.f, s.g⟩
def rnds (s : S8) (w : List Nat) : Nat → S8
  | 0 => s
  | t + 1 => rnd (rnds s w t) (kt.getD t 0) (w.getD t 0)
def iv : S8 := ⟨0x6a09e667, 0xbb67ae85, 0x3c6ef372, 0xa54ff53a, 0x510e527f, 0x9b05688c, 0x1f83d9ab, 0x5be0cd19⟩
def s8add (s v : S8) : S8 := ⟨ad s.a v.a, ad s.b v.b, ad s.c v.c, ad s.d v.d, ad s.e v.e, ad s.f v.f, ad s.g v.g, ad s.h v.h⟩
def cmp8 (s : S8) (b : List UInt8) : S8 := s8add s (rnds s (sch b 64) 64)
def s8L (s : S8) : List Nat := [s.a, s.b, s.c, s.d, s.e, s.f, s.g, s.h]
def s8C (s : S8) : List D := [.int .u32 s.a, .int .u32 s.b, .int .u32 s.c, .int .u32 s.d, .int .u32 s.e, .int .u32 s.f, .int .u32 s.g, .int .u32 s.h]
/-- A stream: its state, its last block, its length. -/
structure Str where
  st : S8
  blk : List UInt8
  n : Nat
def strC (s : Str) : List D := s8C s.st ++ (s.blk.map bD ++ [.int .u64 (s.n : Int)])
def str0 : Str := ⟨iv, List.replicate 64 0, 0⟩
def addB (s : Str) (x : UInt8) : Str :=
  ⟨if (s.n + 1) % 64 = 0 then cmp8 s.st (s.blk.set (s.n % 64) x) else s.st, s.blk.set (s.n % 64) x, s.n + 1⟩
def addS (s : Str) (m : List UInt8) : Str := m.foldl addB s
theorem addS_app (s : Str) (x y : List UInt8) : addS s (x ++ y) = addS (addS s x) y := List.foldl_append
theorem addS_n : ∀ (m : List UInt8) (s : Str), (addS s m).n = s.n + m.length
  | [], s => rfl
  | x :: m, s => by rw [addS, List.foldl_cons, ← addS, addS_n m]; simp [addB]; omega
theorem addS_blk : ∀ (m : List UInt8) (s : Str), (addS s m).blk.length = s.blk.length
  | [], s => rfl
  | x :: m, s => by rw [addS, List.foldl_cons, ← addS, addS_blk m]; simp [addB]
/-- A piece that does not pass the block's end. -/
theorem addS_piece : ∀ (c : List UInt8) (s : Str), s.blk.length = 64 → 0 < c.length → s.n % 64 + c.length ≤ 64 →
    addS s c = ⟨if s.n % 64 + c.length = 64 then cmp8 s.st (s.blk.take (s.n % 64) ++ c ++ s.blk.drop (s.n % 64 + c.length)) else s.st,
      s.blk.take (s.n % 64) ++ c ++ s.blk.drop (s.n % 64 + c.length), s.n + c.length⟩
  | [], s, _, h0, _ => by simp at h0
  | [x], s, hb, _, h1 => by
    have hn : s.n % 64 < s.blk.length := by omega
    have e : s.blk.set (s.n % 64) x = s.blk.take (s.n % 64) ++ [x] ++ s.blk.drop (s.n % 64 + 1) := by
      rw [List.set_eq_take_append_cons_drop, if_pos hn]; simp
    show addB s x = _
    unfold addB
    rw [e]
    simp only [List.length_cons, List.length_nil, Nat.zero_add]
    have : ((s.n + 1) % 64 = 0) = (s.n % 64 + 1 = 64) := propext (by omega)
    simp only [this]
  | x :: y :: r, s, hb, _, h1 => by
    simp only [List.length_cons] at h1
    have hn : s.n % 64 < s.blk.length := by omega
    have e : s.blk.set (s.n % 64) x = s.blk.take (s.n % 64) ++ [x] ++ s.blk.drop (s.n % 64 + 1) := by
      rw [List.set_eq_take_append_cons_drop, if_pos hn]; simp
    have e0 : addB s x = ⟨s.st, s.blk.take (s.n % 64) ++ [x] ++ s.blk.drop (s.n % 64 + 1), s.n + 1⟩ := by
      unfold addB; rw [e, if_neg (by omega)]
    have hm : (s.n + 1) % 64 = s.n % 64 + 1 := by omega
    have ht : (s.blk.take (s.n % 64)).length = s.n % 64 := by rw [List.length_take]; omega
    rw [addS, List.foldl_cons, ← addS, e0, addS_piece (y :: r) _ (by simp; omega) (by simp) (by simp only [List.length_cons]; omega)]
    simp only [hm, List.length_cons]
    have t1 : (s.blk.take (s.n % 64) ++ [x] ++ s.blk.drop (s.n % 64 + 1)).take (s.n % 64 + 1) = s.blk.take (s.n % 64) ++ [x] := by
      rw [List.take_left']; simp; omega
    have t2 : (s.blk.take (s.n % 64) ++ [x] ++ s.blk.drop (s.n % 64 + 1)).drop (s.n % 64 + 1 + (r.length + 1)) = s.blk.drop (s.n % 64 + (r.length + 1 + 1)) := by
      rw [List.drop_append, List.drop_of_length_le (by simp; omega), List.nil_append, List.drop_drop]
      congr 1; simp; omega
    rw [t1, t2]
    have t3 : s.blk.take (s.n % 64) ++ [x] ++ (y :: r) = s.blk.take (s.n % 64) ++ (x :: y :: r) := by simp
    rw [t3, show s.n % 64 + 1 + (r.length + 1) = s.n % 64 + (r.length + 1 + 1) by omega, show s.n + 1 + (r.length + 1) = s.n + (r.length + 1 + 1) by omega]
/-- The padding behind a message of n bytes. -/
def zN (n : Nat) : Nat := (119 - n % 64) % 64
def b8 (n : Nat) : List UInt8 := (List.range 8).map fun i => UInt8.ofNat (n >>> (56 - 8 * i))
def padL (n : Nat) : List UInt8 := 128 :: (List.replicate (zN n) 0 ++ b8 (8 * n))
def outB (s : S8) : List UInt8 := (List.range 32).map fun i => UInt8.ofNat ((s8L s).getD (i / 4) 0 >>> (24 - 8 * (i % 4)))
def sumS (s : Str) : List UInt8 := outB (addS s (padL s.n)).st
def sha (m : List UInt8) : List UInt8 := sumS (addS str0 m)
/-- The same, block by block. -/
def blkS (m : List UInt8) : Nat → S8
  | 0 => iv
  | k + 1 => cmp8 (blkS m k) ((m.drop (64 * k)).take 64)
theorem blk_eq (m : List UInt8) : ∀ k, 64 * k ≤ m.length → (addS str0 (m.take (64 * k))).st = blkS m k
  | 0, _ => by simp [addS, blkS, str0]
  | k + 1, h => by
    have e : m.take (64 * (k + 1)) = m.take (64 * k) ++ (m.drop (64 * k)).take 64 := by
      rw [show 64 * (k + 1) = 64 * k + 64 by omega, List.take_add]
    have hl : ((m.drop (64 * k)).take 64).length = 64 := by rw [List.length_take, List.length_drop]; omega
    have hn : (addS str0 (m.take (64 * k))).n = 64 * k := by rw [addS_n, List.length_take]; simp [str0]; omega
    have hb : (addS str0 (m.take (64 * k))).blk.length = 64 := by rw [addS_blk]; rfl
    have hm : 64 * k % 64 = 0 := by omega
    rw [e, addS_app, addS_piece _ _ hb (by omega) (by rw [hn, hl]; omega)]
    rw [hn, hm, hl, List.drop_of_length_le (l := (addS str0 (m.take (64 * k))).blk) (by omega), blk_eq m k (by omega)]
    simp [blkS]
theorem pad_len (n : Nat) : (n + (padL n).length) % 64 = 0 := by
  simp [padL, b8, zN]; omega
theorem sha_blk (m : List UInt8) : sha m = outB (blkS (m ++ padL m.length) ((m ++ padL m.length).length / 64)) := by
  have h := pad_len m.length
  have hl : (m ++ padL m.length).length = m.length + (padL m.length).length := List.length_append
  have e := blk_eq (m ++ padL m.length) ((m ++ padL m.length).length / 64) (by omega)
  rw [List.take_of_length_le (by omega)] at e
  unfold sha sumS
  rw [addS_n, show str0.n + m.length = m.length from Nat.zero_add _, ← addS_app, e]
theorem outB_len (s : S8) : (outB s).length = 32 := by simp [outB]
theorem sha_len (m : List UInt8) : (sha m).length = 32 := outB_len _
theorem strC_len {s : Str} (h : s.blk.length = 64) : (strC s).length = 73 := by simp [strC, s8C, h]
theorem nthW_iff {cs : List D} {i : Nat} {d : D} {k : D → Prop} (h : cs[i]? = some d) : nthW cs i k = k d := by
  obtain ⟨h1, rfl⟩ := List.getElem?_eq_some_iff.1 h
  exact propext ⟨fun ⟨_, h⟩ => h, fun h => ⟨h1, h⟩⟩
theorem nthW_none {cs : List D} {i : Nat} {k : D → Prop} (h : cs[i]? = none) : nthW cs i k = False :=
  eq_false fun ⟨h1, _⟩ => by rw [List.getElem?_eq_none_iff] at h; omega
theorem strC_n {s : Str} (h : s.blk.length = 64) (k : D → Prop) : nthW (strC s) 72 k = k (.int .u64 (s.n : Int)) := by exact nthW_iff (by simp [strC, s8C, h])
theorem strC_st (s : Str) : ((strC s).drop 0).take 8 = s8C s.st := by simp [strC, s8C]
theorem strC_blk {s : Str} (h : s.blk.length = 64) : ((strC s).drop 8).take 64 = s.blk.map bD := by
  simp only [strC]
  rw [List.drop_append, show (s8C s.st).length = 8 from rfl, List.drop_of_length_le (show (s8C s.st).length ≤ 8 from Nat.le_refl _), List.nil_append, Nat.sub_self, List.drop_zero, List.take_append, List.length_map, h, Nat.sub_self, List.take_zero, List.append_nil, List.take_of_length_le (by simp [h])]
theorem strC_setN {s : Str} (h : s.blk.length = 64) (n : Nat) : (strC s).take 72 ++ [D.int .u64 (n : Int)] ++ (strC s).drop 73 = strC ⟨s.st, s.blk, n⟩ := by
  rw [List.drop_of_length_le (by rw [strC_len h]; omega), List.append_nil]
  simp only [strC]
  rw [← List.append_assoc, List.take_left' (by simp [s8C, h]), List.append_assoc]
theorem strC_setSt (s : Str) (x : S8) : (strC s).take 0 ++ s8C x ++ (strC s).drop 8 = strC ⟨x, s.blk, s.n⟩ := by
  simp [strC, s8C]
theorem strC_setB {s : Str} (h : s.blk.length = 64) {a : Nat} {c : List UInt8} (hc : a + c.length ≤ 64) :
    (strC s).take (8 + a) ++ c.map bD ++ (strC s).drop (8 + a + c.length) = strC ⟨s.st, s.blk.take a ++ c ++ s.blk.drop (a + c.length), s.n⟩ := by
  have e8 : (s8C s.st).length = 8 := rfl
  simp only [strC]
  rw [List.take_append, List.drop_append, e8, List.take_of_length_le (by omega), List.drop_of_length_le (by omega), show 8 + a - 8 = a by omega, show 8 + a + c.length - 8 = a + c.length by omega,
    List.take_append, List.drop_append, List.length_map, h, show a - 64 = 0 by omega, show a + c.length - 64 = 0 by omega]
  simp
theorem flS_str (s : Str) : ∀ c ∈ strC s, flS c = true := by
  intro c hc
  simp only [strC, s8C, List.mem_append, List.mem_map, List.mem_cons, List.not_mem_nil, or_false] at hc
  rcases hc with (rfl | rfl | rfl | rfl | rfl | rfl | rfl | rfl) | ⟨x, _, rfl⟩ | rfl <;> rfl
theorem nmC_str (id : Nat) (s : Str) : nmC id (strC s) = True := eq_true fun c hc => by
  have := flS_str s c hc
  cases c <;> simp_all [flS, mn]
theorem coe_fl {S : St} : ∀ (cs : List D) (_ : ∀ c ∈ cs, flS c = true) (g : List D → Bool → Prop), coeL S cs g = g cs false
  | [], _, g => rfl
  | c :: r, h, g => by
    have hc := h c (by simp)
    have ih := coe_fl (S := S) r (fun x hx => h x (by simp [hx]))
    show coeS S c (fun d' b => coeL S r fun r' b' => g (d' :: r') (b || b')) = _
    cases c <;> simp [flS] at hc <;> (show coeL S r _ = _; rw [ih]; rfl)
theorem coe_str {S : St} (s : Str) (g : List D → Bool → Prop) : coeL S (strC s) g = g (strC s) false := coe_fl _ (flS_str s) g
theorem flS_s8 (s : S8) : ∀ c ∈ s8C s, flS c = true := by
  intro c hc
  simp only [s8C, List.mem_cons, List.not_mem_nil, or_false] at hc
  rcases hc with rfl | rfl | rfl | rfl | rfl | rfl | rfl | rfl <;> rfl
theorem coe_s8 {S : St} (s : S8) (g : List D → Bool → Prop) : coeL S (s8C s) g = g (s8C s) false := coe_fl _ (flS_s8 s) g
end Go.Abs

