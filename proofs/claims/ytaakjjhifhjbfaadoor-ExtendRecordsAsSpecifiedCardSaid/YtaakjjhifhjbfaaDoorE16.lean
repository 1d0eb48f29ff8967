/-
  EXTEND, fifteenth walks: the laws' sanity.
-/
import Derived.Test.YtaakjjhifhjbfaaDoorE15
namespace Go.Abs
open Go.Proofs
def cX : Cn := ⟨[0, 2, 5], [[97], [98], [99]], 2, 100⟩
abbrev cxD : List D := [.sl 1 3 [.int .i64 0, .int .i64 2, .int .i64 5], .sl 1 3 [.str [97], .str [98], .str [99]], .int .i64 2, .int .i64 100]
def mX : Pl := ⟨7, 50, 150, 40, []⟩
theorem okX : okC cX := by decide +kernel
theorem bal_blt {c : Cn} {m : Pl} {h t : Int} {y : Bool} (hc : okC c) (hs : 0 ≤ seatI c.hs h) : balB c m h t y = blt c m h t y := by
  have e : slE c h = 0 := by unfold slE; rw [if_pos hc, if_neg (by omega)]
  unfold balB blt
  simp only [slD, if_pos e]
def vA : Bl := balB cX mX 0 41 true
def vB : Bl := balB cX mX 5 44 true
def vF : Bl := ⟨2, 44, true, slD cX mX 2 44 false, slD_len ..⟩
def mA : Pl := ⟨7, 50, 150, 40, [vA]⟩
def mB : Pl := ⟨7, 50, 150, 40, [vA, vB]⟩
theorem rgX : rgtP cX mX := rgt_open okX (by decide +kernel)
theorem xA : voE cX mX vA = 0 := by
  unfold vA; rw [bal_blt okX (by decide +kernel)]
  exact vo_yes (by decide) (by decide) (by decide) (by decide) rfl
theorem rA : rgtP cX mA := rgt_add rgX xA
theorem xB : voE cX mA vB = 0 := by
  unfold vB; rw [bal_blt okX (by decide +kernel)]
  exact vo_yes (by decide) (by decide) (by decide) (by decide) rfl
theorem rB : rgtP cX mB := rgt_add rA xB
theorem vtE_r {c : Cn} {m : Pl} {v : Bl} (h : rgtP c m) : vtE c m v = voE c m v := by unfold vtE; rw [if_pos h.1, if_pos h]
theorem x9 : vtE cX mA vA = 9 := by rw [vtE_r rA]; decide +kernel
theorem x19 : vtE cX mA (balB cX mX 1 42 true) = 19 := by rw [vtE_r rA]; decide +kernel
theorem x15 : vtE cX mA (balB cX mX 2 40 true) = 15 := by rw [vtE_r rA]; decide +kernel
theorem x18 : vtE cX mA (balB cX mX 2 51 true) = 18 := by rw [vtE_r rA]; decide +kernel
theorem x16 : vtE cX mA vF = 16 := by rw [vtE_r rA]; decide +kernel
theorem dcE_r {c : Cn} {m : Pl} {t : Int} (h : rgtP c m) : dcE c m t = if m.l < t then 18 else if t < lstT m then 15 else if yesN m.v < c.nd then 29 else 0 := by
  unfold dcE; rw [if_pos h.1, if_pos h]
theorem d29 : dcE cX mA 45 = 29 := by rw [dcE_r rA]; decide +kernel
theorem d15 : dcE cX mB 43 = 15 := by rw [dcE_r rB]; decide +kernel
theorem d0 : dcE cX mB 45 = 0 := by rw [dcE_r rB]; decide +kernel
theorem d18 : dcE cX mB 51 = 18 := by rw [dcE_r rB]; decide +kernel
theorem yX : yesN mB.v = 2 := by decide +kernel
def dgE : List UInt8 := recD zeroD mB 45
def xX : Xt := ⟨mB, 45, dgE, recD_len ..⟩
def xY : Xt := ⟨mB, 46, dgE, recD_len ..⟩
theorem wX : vfR cX [xX] = (1, 0) := by
  refine vfR_all okX fun j hj => ?_
  obtain rfl : j = 0 := by simp at hj; omega
  show xtE cX [xX] 0 xX zeroD = 0
  unfold xtE
  rw [if_pos (show xX.d = recD zeroD xX.p xX.t from rfl), if_pos (show dcE cX xX.p xX.t = 0 from d0)]; rfl
theorem dgE_ne : dgE ≠ recD zeroD mB 46 := by decide +kernel
theorem wY : vfR cX [xY] = (0, 23) := by
  have e : xtAt cX [xY] 0 = 23 := by
    show xtE cX [xY] 0 xY zeroD = 23
    unfold xtE
    exact if_neg dgE_ne
  rw [vfR_bad okX (k := 0) (by decide) (fun j hj => by omega) (by rw [e]; decide), e]; rfl
end Go.Abs

