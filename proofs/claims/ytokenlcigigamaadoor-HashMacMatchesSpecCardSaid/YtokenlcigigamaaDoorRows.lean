/-
  NARROWER THAN 'FOR EVERY INPUT', by the rows' own cells (each row's printed sentence says how): HashSumMatchesSpec: laid · HashStreamsAgree: laid · HashOfMatchesSpec: laid · HashOfSeparates: laid · HashHmacMatchesSpec: laid · HashKeysOfOneBlock: laid · HashExpandMatchesSpec: laid · HashExpandBegins: laid · HashMacMatchesSpec: laid.
  DERIVED. THE GIVEN ROWS OF THIS SEAT. 9 by the template 'for every input the law returns true; each argument reads behind the call as it read before'; 0 by the template 'total and deterministic' (their statements: YtokenlcigigamaaDoorTotals.lean).
  GIVEN WITH THE SEED: the statements are not yours to turn. If you find one false, say at which input.
  Laid BY PROGRAM, IN A SANDBOX (cutbox-rows.mjs): the forced cells as the released guide's own fill.sh prints them over the translation afe24ceb3176327c… (all of the seat's roots in one cut). By AI agents, Wed Nov 11 2026. No macro, syntax, notation, axiom, sorry.
-/
import Derived.Test.YtokenlcigigamaaDoorChecked
import GoSem.Claim
import GoSem.ClaimJoined
import GoSem.ClaimMapViews
import Derived.JoinedTies
import Derived.KernelRfl
namespace Go.Proofs.YtokenlcigigamaaDoor
/- THE CELL 'sum', in the pinned program and in every row, IS THE sha256 OF THE DUMP (.gsa) THAT YtokenlcigigamaaDoorProg.lean LOADS. Nothing in Lean hashes anything: it is a label: what it is worth is what the hold of that sum in a sandbox is worth. -/
noncomputable def Tryd.pinned : Pinned := { name := "ytokenlcigigamaadoor", sum := "afe24ceb3176327c543fd1e99f4179056aacf723bbfba681f01b043fe7b579ea", checked := Tryd.checked }
namespace Rows
def none {H : Type} : Left H := { results := [], args := [] }

/- WHAT THE LISTED PACKAGE-LEVEL VARIABLES READ AS WHEN THE CALL BEGINS. Each datum BY PROGRAM (the guide's laid-datum.mjs) off the statement by which the dump's own 'gosem.cut.vars' lays the variable. In a bare row this is a premise. The card (YtokenlcigigamaaDoorCards.lean) ties it to the program's text. -/
def laid_quietus_quietusref02_constants {H : Type} : DataW H := .agg [.lit (.int .u32 1116352408), .lit (.int .u32 1899447441), .lit (.int .u32 3049323471), .lit (.int .u32 3921009573), .lit (.int .u32 961987163), .lit (.int .u32 1508970993), .lit (.int .u32 2453635748), .lit (.int .u32 2870763221), .lit (.int .u32 3624381080), .lit (.int .u32 310598401), .lit (.int .u32 607225278), .lit (.int .u32 1426881987), .lit (.int .u32 1925078388), .lit (.int .u32 2162078206), .lit (.int .u32 2614888103), .lit (.int .u32 3248222580), .lit (.int .u32 3835390401), .lit (.int .u32 4022224774), .lit (.int .u32 264347078), .lit (.int .u32 604807628), .lit (.int .u32 770255983), .lit (.int .u32 1249150122), .lit (.int .u32 1555081692), .lit (.int .u32 1996064986), .lit (.int .u32 2554220882), .lit (.int .u32 2821834349), .lit (.int .u32 2952996808), .lit (.int .u32 3210313671), .lit (.int .u32 3336571891), .lit (.int .u32 3584528711), .lit (.int .u32 113926993), .lit (.int .u32 338241895), .lit (.int .u32 666307205), .lit (.int .u32 773529912), .lit (.int .u32 1294757372), .lit (.int .u32 1396182291), .lit (.int .u32 1695183700), .lit (.int .u32 1986661051), .lit (.int .u32 2177026350), .lit (.int .u32 2456956037), .lit (.int .u32 2730485921), .lit (.int .u32 2820302411), .lit (.int .u32 3259730800), .lit (.int .u32 3345764771), .lit (.int .u32 3516065817), .lit (.int .u32 3600352804), .lit (.int .u32 4094571909), .lit (.int .u32 275423344), .lit (.int .u32 430227734), .lit (.int .u32 506948616), .lit (.int .u32 659060556), .lit (.int .u32 883997877), .lit (.int .u32 958139571), .lit (.int .u32 1322822218), .lit (.int .u32 1537002063), .lit (.int .u32 1747873779), .lit (.int .u32 1955562222), .lit (.int .u32 2024104815), .lit (.int .u32 2227730452), .lit (.int .u32 2361852424), .lit (.int .u32 2428436474), .lit (.int .u32 2756734187), .lit (.int .u32 3204031479), .lit (.int .u32 3329325298)]
def laid_quietus_hash_constants {H : Type} : DataW H := .agg [.lit (.int .u32 1116352408), .lit (.int .u32 1899447441), .lit (.int .u32 3049323471), .lit (.int .u32 3921009573), .lit (.int .u32 961987163), .lit (.int .u32 1508970993), .lit (.int .u32 2453635748), .lit (.int .u32 2870763221), .lit (.int .u32 3624381080), .lit (.int .u32 310598401), .lit (.int .u32 607225278), .lit (.int .u32 1426881987), .lit (.int .u32 1925078388), .lit (.int .u32 2162078206), .lit (.int .u32 2614888103), .lit (.int .u32 3248222580), .lit (.int .u32 3835390401), .lit (.int .u32 4022224774), .lit (.int .u32 264347078), .lit (.int .u32 604807628), .lit (.int .u32 770255983), .lit (.int .u32 1249150122), .lit (.int .u32 1555081692), .lit (.int .u32 1996064986), .lit (.int .u32 2554220882), .lit (.int .u32 2821834349), .lit (.int .u32 2952996808), .lit (.int .u32 3210313671), .lit (.int .u32 3336571891), .lit (.int .u32 3584528711), .lit (.int .u32 113926993), .lit (.int .u32 338241895), .lit (.int .u32 666307205), .lit (.int .u32 773529912), .lit (.int .u32 1294757372), .lit (.int .u32 1396182291), .lit (.int .u32 1695183700), .lit (.int .u32 1986661051), .lit (.int .u32 2177026350), .lit (.int .u32 2456956037), .lit (.int .u32 2730485921), .lit (.int .u32 2820302411), .lit (.int .u32 3259730800), .lit (.int .u32 3345764771), .lit (.int .u32 3516065817), .lit (.int .u32 3600352804), .lit (.int .u32 4094571909), .lit (.int .u32 275423344), .lit (.int .u32 430227734), .lit (.int .u32 506948616), .lit (.int .u32 659060556), .lit (.int .u32 883997877), .lit (.int .u32 958139571), .lit (.int .u32 1322822218), .lit (.int .u32 1537002063), .lit (.int .u32 1747873779), .lit (.int .u32 1955562222), .lit (.int .u32 2024104815), .lit (.int .u32 2227730452), .lit (.int .u32 2361852424), .lit (.int .u32 2428436474), .lit (.int .u32 2756734187), .lit (.int .u32 3204031479), .lit (.int .u32 3329325298)]

/-- 'quietuslaw02.HashSumMatchesSpec': WHATEVER THE INPUT: true; the input reads as it did. -/
def hashSumMatchesSpecSpec : ChangeSpec := { name := "hashSumMatchesSpec", fn := fun _ => fun
  | [d] => { results := [.lit (.bool true)], args := [d] }
  | _ => none }
def hashSumMatchesSpecRow : OpenClaim := { program := "ytokenlcigigamaadoor", sum := "afe24ceb3176327c543fd1e99f4179056aacf723bbfba681f01b043fe7b579ea", func := "quietus/quietuslaw02.HashSumMatchesSpec", spec := "hashSumMatchesSpec", named := ["quietus/hash.constants", "quietus/quietusref02.constants"], apart := false, laid := [("quietus/quietusref02.constants", laid_quietus_quietusref02_constants), ("quietus/hash.constants", laid_quietus_hash_constants)] }
def HashSumMatchesSpecSaid : Prop := hashSumMatchesSpecRow.holds Tryd.pinned (OpenSpec.ofChange hashSumMatchesSpecSpec)

/-- ITS FALSE NEIGHBOUR: 'it returns false'. Refute it at one input. -/
def hashSumMatchesSpecWrong : ChangeSpec := { name := "hashSumMatchesSpec", fn := fun _ => fun
  | [d] => { results := [.lit (.bool false)], args := [d] }
  | _ => none }
def HashSumMatchesSpecWrongFalsely : Prop := hashSumMatchesSpecRow.holds Tryd.pinned (OpenSpec.ofChange hashSumMatchesSpecWrong)

/-- 'quietuslaw02.HashStreamsAgree': WHATEVER THE INPUT: true; the input reads as it did. -/
def hashStreamsAgreeSpec : ChangeSpec := { name := "hashStreamsAgree", fn := fun _ => fun
  | [d1, d2, d3] => { results := [.lit (.bool true)], args := [d1, d2, d3] }
  | _ => none }
def hashStreamsAgreeRow : OpenClaim := { program := "ytokenlcigigamaadoor", sum := "afe24ceb3176327c543fd1e99f4179056aacf723bbfba681f01b043fe7b579ea", func := "quietus/quietuslaw02.HashStreamsAgree", spec := "hashStreamsAgree", named := ["quietus/hash.constants"], apart := false, laid := [("quietus/hash.constants", laid_quietus_hash_constants)] }
def HashStreamsAgreeSaid : Prop := hashStreamsAgreeRow.holds Tryd.pinned (OpenSpec.ofChange hashStreamsAgreeSpec)

/-- ITS FALSE NEIGHBOUR: 'it returns false'. Refute it at one input. -/
def hashStreamsAgreeWrong : ChangeSpec := { name := "hashStreamsAgree", fn := fun _ => fun
  | [d1, d2, d3] => { results := [.lit (.bool false)], args := [d1, d2, d3] }
  | _ => none }
def HashStreamsAgreeWrongFalsely : Prop := hashStreamsAgreeRow.holds Tryd.pinned (OpenSpec.ofChange hashStreamsAgreeWrong)

/-- 'quietuslaw02.HashOfMatchesSpec': WHATEVER THE INPUT: true; the input reads as it did. -/
def hashOfMatchesSpecSpec : ChangeSpec := { name := "hashOfMatchesSpec", fn := fun _ => fun
  | [d1, d2] => { results := [.lit (.bool true)], args := [d1, d2] }
  | _ => none }
def hashOfMatchesSpecRow : OpenClaim := { program := "ytokenlcigigamaadoor", sum := "afe24ceb3176327c543fd1e99f4179056aacf723bbfba681f01b043fe7b579ea", func := "quietus/quietuslaw02.HashOfMatchesSpec", spec := "hashOfMatchesSpec", named := ["quietus/hash.constants", "quietus/quietusref02.constants"], apart := false, laid := [("quietus/quietusref02.constants", laid_quietus_quietusref02_constants), ("quietus/hash.constants", laid_quietus_hash_constants)] }
def HashOfMatchesSpecSaid : Prop := hashOfMatchesSpecRow.holds Tryd.pinned (OpenSpec.ofChange hashOfMatchesSpecSpec)

/-- ITS FALSE NEIGHBOUR: 'it returns false'. Refute it at one input. -/
def hashOfMatchesSpecWrong : ChangeSpec := { name := "hashOfMatchesSpec", fn := fun _ => fun
  | [d1, d2] => { results := [.lit (.bool false)], args := [d1, d2] }
  | _ => none }
def HashOfMatchesSpecWrongFalsely : Prop := hashOfMatchesSpecRow.holds Tryd.pinned (OpenSpec.ofChange hashOfMatchesSpecWrong)

/-- 'quietuslaw02.HashOfSeparates': WHATEVER THE INPUT: true; the input reads as it did. -/
def hashOfSeparatesSpec : ChangeSpec := { name := "hashOfSeparates", fn := fun _ => fun
  | [d1, d2, d3] => { results := [.lit (.bool true)], args := [d1, d2, d3] }
  | _ => none }
def hashOfSeparatesRow : OpenClaim := { program := "ytokenlcigigamaadoor", sum := "afe24ceb3176327c543fd1e99f4179056aacf723bbfba681f01b043fe7b579ea", func := "quietus/quietuslaw02.HashOfSeparates", spec := "hashOfSeparates", named := ["quietus/hash.constants"], apart := false, laid := [("quietus/hash.constants", laid_quietus_hash_constants)] }
def HashOfSeparatesSaid : Prop := hashOfSeparatesRow.holds Tryd.pinned (OpenSpec.ofChange hashOfSeparatesSpec)

/-- ITS FALSE NEIGHBOUR: 'it returns false'. Refute it at one input. -/
def hashOfSeparatesWrong : ChangeSpec := { name := "hashOfSeparates", fn := fun _ => fun
  | [d1, d2, d3] => { results := [.lit (.bool false)], args := [d1, d2, d3] }
  | _ => none }
def HashOfSeparatesWrongFalsely : Prop := hashOfSeparatesRow.holds Tryd.pinned (OpenSpec.ofChange hashOfSeparatesWrong)

/-- 'quietuslaw02.HashHmacMatchesSpec': WHATEVER THE INPUT: true; the input reads as it did. -/
def hashHmacMatchesSpecSpec : ChangeSpec := { name := "hashHmacMatchesSpec", fn := fun _ => fun
  | [d1, d2] => { results := [.lit (.bool true)], args := [d1, d2] }
  | _ => none }
def hashHmacMatchesSpecRow : OpenClaim := { program := "ytokenlcigigamaadoor", sum := "afe24ceb3176327c543fd1e99f4179056aacf723bbfba681f01b043fe7b579ea", func := "quietus/quietuslaw02.HashHmacMatchesSpec", spec := "hashHmacMatchesSpec", named := ["quietus/hash.constants", "quietus/quietusref02.constants"], apart := false, laid := [("quietus/quietusref02.constants", laid_quietus_quietusref02_constants), ("quietus/hash.constants", laid_quietus_hash_constants)] }
def HashHmacMatchesSpecSaid : Prop := hashHmacMatchesSpecRow.holds Tryd.pinned (OpenSpec.ofChange hashHmacMatchesSpecSpec)

/-- ITS FALSE NEIGHBOUR: 'it returns false'. Refute it at one input. -/
def hashHmacMatchesSpecWrong : ChangeSpec := { name := "hashHmacMatchesSpec", fn := fun _ => fun
  | [d1, d2] => { results := [.lit (.bool false)], args := [d1, d2] }
  | _ => none }
def HashHmacMatchesSpecWrongFalsely : Prop := hashHmacMatchesSpecRow.holds Tryd.pinned (OpenSpec.ofChange hashHmacMatchesSpecWrong)

/-- 'quietuslaw02.HashKeysOfOneBlock': WHATEVER THE INPUT: true; the input reads as it did. -/
def hashKeysOfOneBlockSpec : ChangeSpec := { name := "hashKeysOfOneBlock", fn := fun _ => fun
  | [d1, d2, d3] => { results := [.lit (.bool true)], args := [d1, d2, d3] }
  | _ => none }
def hashKeysOfOneBlockRow : OpenClaim := { program := "ytokenlcigigamaadoor", sum := "afe24ceb3176327c543fd1e99f4179056aacf723bbfba681f01b043fe7b579ea", func := "quietus/quietuslaw02.HashKeysOfOneBlock", spec := "hashKeysOfOneBlock", named := ["quietus/hash.constants"], apart := false, laid := [("quietus/hash.constants", laid_quietus_hash_constants)] }
def HashKeysOfOneBlockSaid : Prop := hashKeysOfOneBlockRow.holds Tryd.pinned (OpenSpec.ofChange hashKeysOfOneBlockSpec)

/-- ITS FALSE NEIGHBOUR: 'it returns false'. Refute it at one input. -/
def hashKeysOfOneBlockWrong : ChangeSpec := { name := "hashKeysOfOneBlock", fn := fun _ => fun
  | [d1, d2, d3] => { results := [.lit (.bool false)], args := [d1, d2, d3] }
  | _ => none }
def HashKeysOfOneBlockWrongFalsely : Prop := hashKeysOfOneBlockRow.holds Tryd.pinned (OpenSpec.ofChange hashKeysOfOneBlockWrong)

/-- 'quietuslaw02.HashExpandMatchesSpec': WHATEVER THE INPUT: true; the input reads as it did. -/
def hashExpandMatchesSpecSpec : ChangeSpec := { name := "hashExpandMatchesSpec", fn := fun _ => fun
  | [d1, d2] => { results := [.lit (.bool true)], args := [d1, d2] }
  | _ => none }
def hashExpandMatchesSpecRow : OpenClaim := { program := "ytokenlcigigamaadoor", sum := "afe24ceb3176327c543fd1e99f4179056aacf723bbfba681f01b043fe7b579ea", func := "quietus/quietuslaw02.HashExpandMatchesSpec", spec := "hashExpandMatchesSpec", named := ["quietus/hash.constants", "quietus/quietusref02.constants"], apart := false, laid := [("quietus/quietusref02.constants", laid_quietus_quietusref02_constants), ("quietus/hash.constants", laid_quietus_hash_constants)] }
def HashExpandMatchesSpecSaid : Prop := hashExpandMatchesSpecRow.holds Tryd.pinned (OpenSpec.ofChange hashExpandMatchesSpecSpec)

/-- ITS FALSE NEIGHBOUR: 'it returns false'. Refute it at one input. -/
def hashExpandMatchesSpecWrong : ChangeSpec := { name := "hashExpandMatchesSpec", fn := fun _ => fun
  | [d1, d2] => { results := [.lit (.bool false)], args := [d1, d2] }
  | _ => none }
def HashExpandMatchesSpecWrongFalsely : Prop := hashExpandMatchesSpecRow.holds Tryd.pinned (OpenSpec.ofChange hashExpandMatchesSpecWrong)

/-- 'quietuslaw02.HashExpandBegins': WHATEVER THE INPUT: true; the input reads as it did. -/
def hashExpandBeginsSpec : ChangeSpec := { name := "hashExpandBegins", fn := fun _ => fun
  | [d1, d2] => { results := [.lit (.bool true)], args := [d1, d2] }
  | _ => none }
def hashExpandBeginsRow : OpenClaim := { program := "ytokenlcigigamaadoor", sum := "afe24ceb3176327c543fd1e99f4179056aacf723bbfba681f01b043fe7b579ea", func := "quietus/quietuslaw02.HashExpandBegins", spec := "hashExpandBegins", named := ["quietus/hash.constants"], apart := false, laid := [("quietus/hash.constants", laid_quietus_hash_constants)] }
def HashExpandBeginsSaid : Prop := hashExpandBeginsRow.holds Tryd.pinned (OpenSpec.ofChange hashExpandBeginsSpec)

/-- ITS FALSE NEIGHBOUR: 'it returns false'. Refute it at one input. -/
def hashExpandBeginsWrong : ChangeSpec := { name := "hashExpandBegins", fn := fun _ => fun
  | [d1, d2] => { results := [.lit (.bool false)], args := [d1, d2] }
  | _ => none }
def HashExpandBeginsWrongFalsely : Prop := hashExpandBeginsRow.holds Tryd.pinned (OpenSpec.ofChange hashExpandBeginsWrong)

/-- 'quietuslaw02.HashMacMatchesSpec': WHATEVER THE INPUT: true; the input reads as it did. -/
def hashMacMatchesSpecSpec : ChangeSpec := { name := "hashMacMatchesSpec", fn := fun _ => fun
  | [d1, d2, d3] => { results := [.lit (.bool true)], args := [d1, d2, d3] }
  | _ => none }
def hashMacMatchesSpecRow : OpenClaim := { program := "ytokenlcigigamaadoor", sum := "afe24ceb3176327c543fd1e99f4179056aacf723bbfba681f01b043fe7b579ea", func := "quietus/quietuslaw02.HashMacMatchesSpec", spec := "hashMacMatchesSpec", named := ["quietus/hash.constants", "quietus/quietusref02.constants"], apart := false, laid := [("quietus/quietusref02.constants", laid_quietus_quietusref02_constants), ("quietus/hash.constants", laid_quietus_hash_constants)] }
def HashMacMatchesSpecSaid : Prop := hashMacMatchesSpecRow.holds Tryd.pinned (OpenSpec.ofChange hashMacMatchesSpecSpec)

/-- ITS FALSE NEIGHBOUR: 'it returns false'. Refute it at one input. -/
def hashMacMatchesSpecWrong : ChangeSpec := { name := "hashMacMatchesSpec", fn := fun _ => fun
  | [d1, d2, d3] => { results := [.lit (.bool false)], args := [d1, d2, d3] }
  | _ => none }
def HashMacMatchesSpecWrongFalsely : Prop := hashMacMatchesSpecRow.holds Tryd.pinned (OpenSpec.ofChange hashMacMatchesSpecWrong)

/- THE SECOND FORM. 'bulk': how many values and letters a reading holds, each counted each time it is reached (what is shared counts as often as it is met; a slice's spare places count too). A statement '..UptoSaid' is the law's where the arguments, and the package variables that the reading takes, are together of bulk at most 1048576: NARROWER than '..Said'. Prove '..Said' where nothing that the law and all that it calls make is longer than what came in: it says more and counts as full. Else prove '..UptoSaid'. A law counts once. -/
mutual
def uptoBulk {H : Type} : DataW H → Nat
  | .lit (.string bytes) => bytes.length + 1
  | .lit _ => 1
  | .nil => 1
  | .ptr d => uptoBulk d + 1
  | .slice elems spare => uptoBulkAll elems + uptoBulkAll spare + 1
  | .agg parts => uptoBulkAll parts + 1
  | .iface _ d => uptoBulk d + 1
  | .map entries => uptoBulkEntries entries + 1
  | .held _ => 1
def uptoBulkAll {H : Type} : List (DataW H) → Nat
  | [] => 0
  | d :: r => uptoBulk d + uptoBulkAll r
def uptoBulkEntries {H : Type} : List (Lit × DataW H) → Nat
  | [] => 0
  | x :: r => uptoBulkEntry x + uptoBulkEntries r
def uptoBulkEntry {H : Type} : Lit × DataW H → Nat
  | (.string bytes, d) => bytes.length + uptoBulk d + 1
  | (_, d) => uptoBulk d + 1
 end
def uptoSmall : (H : Type) → List (DataW H) → Bool := fun _ ds => decide (uptoBulkAll ds ≤ 1048576)
def OpenSpec.upto (s : _root_.Go.ChangeSpec) : _root_.Go.OpenSpec := { _root_.Go.OpenSpec.ofChange s with cond := some uptoSmall }

/-- 'quietuslaw02.HashSumMatchesSpec', WHERE WHAT IT READS IS OF BULK AT MOST 1048576: true; the input reads as it did. -/
def hashSumMatchesSpecUptoRow : OpenClaim := { program := "ytokenlcigigamaadoor", sum := "afe24ceb3176327c543fd1e99f4179056aacf723bbfba681f01b043fe7b579ea", func := "quietus/quietuslaw02.HashSumMatchesSpec", spec := "hashSumMatchesSpec", named := ["quietus/hash.constants", "quietus/quietusref02.constants"], apart := false, laid := [("quietus/quietusref02.constants", laid_quietus_quietusref02_constants), ("quietus/hash.constants", laid_quietus_hash_constants)], narrowed := true }
def HashSumMatchesSpecUptoSaid : Prop := hashSumMatchesSpecUptoRow.holds Tryd.pinned (OpenSpec.upto hashSumMatchesSpecSpec)

/-- 'quietuslaw02.HashStreamsAgree', WHERE WHAT IT READS IS OF BULK AT MOST 1048576: true; the input reads as it did. -/
def hashStreamsAgreeUptoRow : OpenClaim := { program := "ytokenlcigigamaadoor", sum := "afe24ceb3176327c543fd1e99f4179056aacf723bbfba681f01b043fe7b579ea", func := "quietus/quietuslaw02.HashStreamsAgree", spec := "hashStreamsAgree", named := ["quietus/hash.constants"], apart := false, laid := [("quietus/hash.constants", laid_quietus_hash_constants)], narrowed := true }
def HashStreamsAgreeUptoSaid : Prop := hashStreamsAgreeUptoRow.holds Tryd.pinned (OpenSpec.upto hashStreamsAgreeSpec)

/-- 'quietuslaw02.HashOfMatchesSpec', WHERE WHAT IT READS IS OF BULK AT MOST 1048576: true; the input reads as it did. -/
def hashOfMatchesSpecUptoRow : OpenClaim := { program := "ytokenlcigigamaadoor", sum := "afe24ceb3176327c543fd1e99f4179056aacf723bbfba681f01b043fe7b579ea", func := "quietus/quietuslaw02.HashOfMatchesSpec", spec := "hashOfMatchesSpec", named := ["quietus/hash.constants", "quietus/quietusref02.constants"], apart := false, laid := [("quietus/quietusref02.constants", laid_quietus_quietusref02_constants), ("quietus/hash.constants", laid_quietus_hash_constants)], narrowed := true }
def HashOfMatchesSpecUptoSaid : Prop := hashOfMatchesSpecUptoRow.holds Tryd.pinned (OpenSpec.upto hashOfMatchesSpecSpec)

/-- 'quietuslaw02.HashOfSeparates', WHERE WHAT IT READS IS OF BULK AT MOST 1048576: true; the input reads as it did. -/
def hashOfSeparatesUptoRow : OpenClaim := { program := "ytokenlcigigamaadoor", sum := "afe24ceb3176327c543fd1e99f4179056aacf723bbfba681f01b043fe7b579ea", func := "quietus/quietuslaw02.HashOfSeparates", spec := "hashOfSeparates", named := ["quietus/hash.constants"], apart := false, laid := [("quietus/hash.constants", laid_quietus_hash_constants)], narrowed := true }
def HashOfSeparatesUptoSaid : Prop := hashOfSeparatesUptoRow.holds Tryd.pinned (OpenSpec.upto hashOfSeparatesSpec)

/-- 'quietuslaw02.HashHmacMatchesSpec', WHERE WHAT IT READS IS OF BULK AT MOST 1048576: true; the input reads as it did. -/
def hashHmacMatchesSpecUptoRow : OpenClaim := { program := "ytokenlcigigamaadoor", sum := "afe24ceb3176327c543fd1e99f4179056aacf723bbfba681f01b043fe7b579ea", func := "quietus/quietuslaw02.HashHmacMatchesSpec", spec := "hashHmacMatchesSpec", named := ["quietus/hash.constants", "quietus/quietusref02.constants"], apart := false, laid := [("quietus/quietusref02.constants", laid_quietus_quietusref02_constants), ("quietus/hash.constants", laid_quietus_hash_constants)], narrowed := true }
def HashHmacMatchesSpecUptoSaid : Prop := hashHmacMatchesSpecUptoRow.holds Tryd.pinned (OpenSpec.upto hashHmacMatchesSpecSpec)

/-- 'quietuslaw02.HashKeysOfOneBlock', WHERE WHAT IT READS IS OF BULK AT MOST 1048576: true; the input reads as it did. -/
def hashKeysOfOneBlockUptoRow : OpenClaim := { program := "ytokenlcigigamaadoor", sum := "afe24ceb3176327c543fd1e99f4179056aacf723bbfba681f01b043fe7b579ea", func := "quietus/quietuslaw02.HashKeysOfOneBlock", spec := "hashKeysOfOneBlock", named := ["quietus/hash.constants"], apart := false, laid := [("quietus/hash.constants", laid_quietus_hash_constants)], narrowed := true }
def HashKeysOfOneBlockUptoSaid : Prop := hashKeysOfOneBlockUptoRow.holds Tryd.pinned (OpenSpec.upto hashKeysOfOneBlockSpec)

/-- 'quietuslaw02.HashExpandMatchesSpec', WHERE WHAT IT READS IS OF BULK AT MOST 1048576: true; the input reads as it did. -/
def hashExpandMatchesSpecUptoRow : OpenClaim := { program := "ytokenlcigigamaadoor", sum := "afe24ceb3176327c543fd1e99f4179056aacf723bbfba681f01b043fe7b579ea", func := "quietus/quietuslaw02.HashExpandMatchesSpec", spec := "hashExpandMatchesSpec", named := ["quietus/hash.constants", "quietus/quietusref02.constants"], apart := false, laid := [("quietus/quietusref02.constants", laid_quietus_quietusref02_constants), ("quietus/hash.constants", laid_quietus_hash_constants)], narrowed := true }
def HashExpandMatchesSpecUptoSaid : Prop := hashExpandMatchesSpecUptoRow.holds Tryd.pinned (OpenSpec.upto hashExpandMatchesSpecSpec)

/-- 'quietuslaw02.HashExpandBegins', WHERE WHAT IT READS IS OF BULK AT MOST 1048576: true; the input reads as it did. -/
def hashExpandBeginsUptoRow : OpenClaim := { program := "ytokenlcigigamaadoor", sum := "afe24ceb3176327c543fd1e99f4179056aacf723bbfba681f01b043fe7b579ea", func := "quietus/quietuslaw02.HashExpandBegins", spec := "hashExpandBegins", named := ["quietus/hash.constants"], apart := false, laid := [("quietus/hash.constants", laid_quietus_hash_constants)], narrowed := true }
def HashExpandBeginsUptoSaid : Prop := hashExpandBeginsUptoRow.holds Tryd.pinned (OpenSpec.upto hashExpandBeginsSpec)

/-- 'quietuslaw02.HashMacMatchesSpec', WHERE WHAT IT READS IS OF BULK AT MOST 1048576: true; the input reads as it did. -/
def hashMacMatchesSpecUptoRow : OpenClaim := { program := "ytokenlcigigamaadoor", sum := "afe24ceb3176327c543fd1e99f4179056aacf723bbfba681f01b043fe7b579ea", func := "quietus/quietuslaw02.HashMacMatchesSpec", spec := "hashMacMatchesSpec", named := ["quietus/hash.constants", "quietus/quietusref02.constants"], apart := false, laid := [("quietus/quietusref02.constants", laid_quietus_quietusref02_constants), ("quietus/hash.constants", laid_quietus_hash_constants)], narrowed := true }
def HashMacMatchesSpecUptoSaid : Prop := hashMacMatchesSpecUptoRow.holds Tryd.pinned (OpenSpec.upto hashMacMatchesSpecSpec)

end Rows
end Go.Proofs.YtokenlcigigamaaDoor
