/-
  No cell of these rows narrows 'for every input' (looked for: loops, veiled, ifaces, maps, wideKeys, modest, calm, conditions, laid).
  DERIVED. THE GIVEN ROWS OF THIS SEAT. 5 by the template 'for every input the law returns true; each argument reads behind the call as it read before'; 0 by the template 'total and deterministic' (their statements: YtjdckgnpocnifaaTotals.lean).
  GIVEN WITH THE SEED: the statements are not yours to turn. If you find one false, say at which input.
  Laid BY PROGRAM, IN A SANDBOX (cutbox-rows.mjs): the forced cells as the released guide's own fill.sh prints them over the translation abf353bd08aa687f… (all of the seat's roots in one cut). By AI agents, Wed Nov 11 2026. No macro, syntax, notation, axiom, sorry.
-/
import Derived.Test.YtjdckgnpocnifaaChecked
import GoSem.Claim
import GoSem.ClaimJoined
import GoSem.ClaimMapViews
import Derived.JoinedTies
import Derived.KernelRfl
namespace Go.Proofs.Ytjdckgnpocnifaa
/- THE CELL 'sum', in the pinned program and in every row, IS THE sha256 OF THE DUMP (.gsa) THAT YtjdckgnpocnifaaProg.lean LOADS. Nothing in Lean hashes anything: it is a label: what it is worth is what the hold of that sum in a sandbox is worth. -/
noncomputable def Try.pinned : Pinned := { name := "ytjdckgnpocnifaa", sum := "abf353bd08aa687fc93899aa70c060fe16e70d52b3712875bc86e2d2c7233f27", checked := Try.checked }
namespace Rows
def none {H : Type} : Left H := { results := [], args := [] }

/-- 'laws.FnExactFieldMul': WHATEVER THE INPUT: true; the input reads as it did. -/
def fnExactFieldMulSpec : ChangeSpec := { name := "fnExactFieldMul", fn := fun _ => fun
  | [d1, d2] => { results := [.lit (.bool true)], args := [d1, d2] }
  | _ => none }
def fnExactFieldMulRow : OpenClaim := { program := "ytjdckgnpocnifaa", sum := "abf353bd08aa687fc93899aa70c060fe16e70d52b3712875bc86e2d2c7233f27", func := "loop.example/s02974/laws.FnExactFieldMul", spec := "fnExactFieldMul", inPlace := ["math/bits.Add64"], apart := false }
def FnExactFieldMulSaid : Prop := fnExactFieldMulRow.holds Try.pinned (OpenSpec.ofChange fnExactFieldMulSpec)

/-- ITS FALSE NEIGHBOUR: 'it returns false'. Refute it at one input. -/
def fnExactFieldMulWrong : ChangeSpec := { name := "fnExactFieldMul", fn := fun _ => fun
  | [d1, d2] => { results := [.lit (.bool false)], args := [d1, d2] }
  | _ => none }
def FnExactFieldMulWrongFalsely : Prop := fnExactFieldMulRow.holds Try.pinned (OpenSpec.ofChange fnExactFieldMulWrong)

/-- 'laws.FnField': WHATEVER THE INPUT: true; the input reads as it did. -/
def fnFieldSpec : ChangeSpec := { name := "fnField", fn := fun _ => fun
  | [d] => { results := [.lit (.bool true)], args := [d] }
  | _ => none }
def fnFieldRow : OpenClaim := { program := "ytjdckgnpocnifaa", sum := "abf353bd08aa687fc93899aa70c060fe16e70d52b3712875bc86e2d2c7233f27", func := "loop.example/s02974/laws.FnField", spec := "fnField", inPlace := ["math/bits.Add64"], apart := false }
def FnFieldSaid : Prop := fnFieldRow.holds Try.pinned (OpenSpec.ofChange fnFieldSpec)

/-- ITS FALSE NEIGHBOUR: 'it returns false'. Refute it at one input. -/
def fnFieldWrong : ChangeSpec := { name := "fnField", fn := fun _ => fun
  | [d] => { results := [.lit (.bool false)], args := [d] }
  | _ => none }
def FnFieldWrongFalsely : Prop := fnFieldRow.holds Try.pinned (OpenSpec.ofChange fnFieldWrong)

/-- 'laws.FnExactScalarMult': WHATEVER THE INPUT: true; the input reads as it did. -/
def fnExactScalarMultSpec : ChangeSpec := { name := "fnExactScalarMult", fn := fun _ => fun
  | [d1, d2, d3] => { results := [.lit (.bool true)], args := [d1, d2, d3] }
  | _ => none }
def fnExactScalarMultRow : OpenClaim := { program := "ytjdckgnpocnifaa", sum := "abf353bd08aa687fc93899aa70c060fe16e70d52b3712875bc86e2d2c7233f27", func := "loop.example/s02974/laws.FnExactScalarMult", spec := "fnExactScalarMult", inPlace := ["math/bits.Add64"], recurses := true, apart := false }
def FnExactScalarMultSaid : Prop := fnExactScalarMultRow.holds Try.pinned (OpenSpec.ofChange fnExactScalarMultSpec)

/-- ITS FALSE NEIGHBOUR: 'it returns false'. Refute it at one input. -/
def fnExactScalarMultWrong : ChangeSpec := { name := "fnExactScalarMult", fn := fun _ => fun
  | [d1, d2, d3] => { results := [.lit (.bool false)], args := [d1, d2, d3] }
  | _ => none }
def FnExactScalarMultWrongFalsely : Prop := fnExactScalarMultRow.holds Try.pinned (OpenSpec.ofChange fnExactScalarMultWrong)

/-- 'laws.FnExactPublicKey': WHATEVER THE INPUT: true; the input reads as it did. -/
def fnExactPublicKeySpec : ChangeSpec := { name := "fnExactPublicKey", fn := fun _ => fun
  | [d1, d2] => { results := [.lit (.bool true)], args := [d1, d2] }
  | _ => none }
def fnExactPublicKeyRow : OpenClaim := { program := "ytjdckgnpocnifaa", sum := "abf353bd08aa687fc93899aa70c060fe16e70d52b3712875bc86e2d2c7233f27", func := "loop.example/s02974/laws.FnExactPublicKey", spec := "fnExactPublicKey", inPlace := ["math/bits.Add64"], recurses := true, apart := false }
def FnExactPublicKeySaid : Prop := fnExactPublicKeyRow.holds Try.pinned (OpenSpec.ofChange fnExactPublicKeySpec)

/-- ITS FALSE NEIGHBOUR: 'it returns false'. Refute it at one input. -/
def fnExactPublicKeyWrong : ChangeSpec := { name := "fnExactPublicKey", fn := fun _ => fun
  | [d1, d2] => { results := [.lit (.bool false)], args := [d1, d2] }
  | _ => none }
def FnExactPublicKeyWrongFalsely : Prop := fnExactPublicKeyRow.holds Try.pinned (OpenSpec.ofChange fnExactPublicKeyWrong)

/-- 'laws.FnAgree': WHATEVER THE INPUT: true; the input reads as it did. -/
def fnAgreeSpec : ChangeSpec := { name := "fnAgree", fn := fun _ => fun
  | [d] => { results := [.lit (.bool true)], args := [d] }
  | _ => none }
def fnAgreeRow : OpenClaim := { program := "ytjdckgnpocnifaa", sum := "abf353bd08aa687fc93899aa70c060fe16e70d52b3712875bc86e2d2c7233f27", func := "loop.example/s02974/laws.FnAgree", spec := "fnAgree", inPlace := ["math/bits.Add64"], recurses := true, apart := false }
def FnAgreeSaid : Prop := fnAgreeRow.holds Try.pinned (OpenSpec.ofChange fnAgreeSpec)

/-- ITS FALSE NEIGHBOUR: 'it returns false'. Refute it at one input. -/
def fnAgreeWrong : ChangeSpec := { name := "fnAgree", fn := fun _ => fun
  | [d] => { results := [.lit (.bool false)], args := [d] }
  | _ => none }
def FnAgreeWrongFalsely : Prop := fnAgreeRow.holds Try.pinned (OpenSpec.ofChange fnAgreeWrong)

/- THE SECOND FORM. 'bulk': how many values and letters a reading holds, each counted each time it is reached (what is shared counts as often as it is met; a slice's spare places count too). A statement '..UptoSaid' is the law's where the arguments, and the package variables that the reading takes, are together of bulk at most 1048576: NARROWER than '..Said'. Prove '..Said' where nothing that the law and all that it calls make is longer than what came in: it says more and counts as full. Else prove '..UptoSaid'. A law counts once. -/
mutual
def uptoBulk {H : Type} : DataW H → Nat
  | .lit (.string bytes) => bytes.length + 1
  | .lit _ => 1
  | .nil => 1
  | .ptr d => uptoBulk d + 1
  | .slice elems spare => uptoBulkAll elems + uptoBulkAll spare + 1
  | .agg parts => uptoBulkAll parts + 1
  | .iface _ d => uptoBulk d + 1
  | .map entries => uptoBulkEntries entries + 1
  | .held _ => 1
def uptoBulkAll {H : Type} : List (DataW H) → Nat
  | [] => 0
  | d :: r => uptoBulk d + uptoBulkAll r
def uptoBulkEntries {H : Type} : List (Lit × DataW H) → Nat
  | [] => 0
  | x :: r => uptoBulkEntry x + uptoBulkEntries r
def uptoBulkEntry {H : Type} : Lit × DataW H → Nat
  | (.string bytes, d) => bytes.length + uptoBulk d + 1
  | (_, d) => uptoBulk d + 1
 end
def uptoSmall : (H : Type) → List (DataW H) → Bool := fun _ ds => decide (uptoBulkAll ds ≤ 1048576)
def OpenSpec.upto (s : _root_.Go.ChangeSpec) : _root_.Go.OpenSpec := { _root_.Go.OpenSpec.ofChange s with cond := some uptoSmall }

/-- 'laws.FnExactFieldMul', WHERE WHAT IT READS IS OF BULK AT MOST 1048576: true; the input reads as it did. -/
def fnExactFieldMulUptoRow : OpenClaim := { program := "ytjdckgnpocnifaa", sum := "abf353bd08aa687fc93899aa70c060fe16e70d52b3712875bc86e2d2c7233f27", func := "loop.example/s02974/laws.FnExactFieldMul", spec := "fnExactFieldMul", inPlace := ["math/bits.Add64"], apart := false, narrowed := true }
def FnExactFieldMulUptoSaid : Prop := fnExactFieldMulUptoRow.holds Try.pinned (OpenSpec.upto fnExactFieldMulSpec)

/-- 'laws.FnField', WHERE WHAT IT READS IS OF BULK AT MOST 1048576: true; the input reads as it did. -/
def fnFieldUptoRow : OpenClaim := { program := "ytjdckgnpocnifaa", sum := "abf353bd08aa687fc93899aa70c060fe16e70d52b3712875bc86e2d2c7233f27", func := "loop.example/s02974/laws.FnField", spec := "fnField", inPlace := ["math/bits.Add64"], apart := false, narrowed := true }
def FnFieldUptoSaid : Prop := fnFieldUptoRow.holds Try.pinned (OpenSpec.upto fnFieldSpec)

/-- 'laws.FnExactScalarMult', WHERE WHAT IT READS IS OF BULK AT MOST 1048576: true; the input reads as it did. -/
def fnExactScalarMultUptoRow : OpenClaim := { program := "ytjdckgnpocnifaa", sum := "abf353bd08aa687fc93899aa70c060fe16e70d52b3712875bc86e2d2c7233f27", func := "loop.example/s02974/laws.FnExactScalarMult", spec := "fnExactScalarMult", inPlace := ["math/bits.Add64"], recurses := true, apart := false, narrowed := true }
def FnExactScalarMultUptoSaid : Prop := fnExactScalarMultUptoRow.holds Try.pinned (OpenSpec.upto fnExactScalarMultSpec)

/-- 'laws.FnExactPublicKey', WHERE WHAT IT READS IS OF BULK AT MOST 1048576: true; the input reads as it did. -/
def fnExactPublicKeyUptoRow : OpenClaim := { program := "ytjdckgnpocnifaa", sum := "abf353bd08aa687fc93899aa70c060fe16e70d52b3712875bc86e2d2c7233f27", func := "loop.example/s02974/laws.FnExactPublicKey", spec := "fnExactPublicKey", inPlace := ["math/bits.Add64"], recurses := true, apart := false, narrowed := true }
def FnExactPublicKeyUptoSaid : Prop := fnExactPublicKeyUptoRow.holds Try.pinned (OpenSpec.upto fnExactPublicKeySpec)

/-- 'laws.FnAgree', WHERE WHAT IT READS IS OF BULK AT MOST 1048576: true; the input reads as it did. -/
def fnAgreeUptoRow : OpenClaim := { program := "ytjdckgnpocnifaa", sum := "abf353bd08aa687fc93899aa70c060fe16e70d52b3712875bc86e2d2c7233f27", func := "loop.example/s02974/laws.FnAgree", spec := "fnAgree", inPlace := ["math/bits.Add64"], recurses := true, apart := false, narrowed := true }
def FnAgreeUptoSaid : Prop := fnAgreeUptoRow.holds Try.pinned (OpenSpec.upto fnAgreeSpec)

end Rows
end Go.Proofs.Ytjdckgnpocnifaa
