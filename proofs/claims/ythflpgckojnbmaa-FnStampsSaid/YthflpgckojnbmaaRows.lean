/-
  No cell of these rows narrows 'for every input' (looked for: loops, veiled, ifaces, maps, wideKeys, modest, calm, conditions, laid).
  DERIVED. THE GIVEN ROWS OF THIS SEAT. 9 by the template 'for every input the law returns true; each argument reads behind the call as it read before'; 0 by the template 'total and deterministic' (their statements: YthflpgckojnbmaaTotals.lean).
  GIVEN WITH THE SEED: the statements are not yours to turn. If you find one false, say at which input.
  Laid BY PROGRAM, IN A SANDBOX (cutbox-rows.mjs): the forced cells as the released guide's own fill.sh prints them over the translation 77596674c36e2bb8… (all of the seat's roots in one cut). By AI agents, Wed Nov 11 2026. No macro, syntax, notation, axiom, sorry.
-/
import Derived.Test.YthflpgckojnbmaaChecked
import GoSem.Claim
import GoSem.ClaimJoined
import GoSem.ClaimMapViews
import Derived.JoinedTies
import Derived.KernelRfl
namespace Go.Proofs.Ythflpgckojnbmaa
/- THE CELL 'sum', in the pinned program and in every row, IS THE sha256 OF THE DUMP (.gsa) THAT YthflpgckojnbmaaProg.lean LOADS. Nothing in Lean hashes anything: it is a label: what it is worth is what the hold of that sum in a sandbox is worth. -/
noncomputable def Try.pinned : Pinned := { name := "ythflpgckojnbmaa", sum := "77596674c36e2bb83ab958ad3559776bee9cdf364117a496676b5808c1cba51a", checked := Try.checked }
namespace Rows
def none {H : Type} : Left H := { results := [], args := [] }

/-- 'laws.FnExactConstants': WHATEVER THE INPUT: true; the input reads as it did. -/
def fnExactConstantsSpec : ChangeSpec := { name := "fnExactConstants", fn := fun _ => fun
  | [] => { results := [.lit (.bool true)], args := [] }
  | _ => none }
def fnExactConstantsRow : OpenClaim := { program := "ythflpgckojnbmaa", sum := "77596674c36e2bb83ab958ad3559776bee9cdf364117a496676b5808c1cba51a", func := "loop.example/s02974/laws.FnExactConstants", spec := "fnExactConstants", apart := false }
def FnExactConstantsSaid : Prop := fnExactConstantsRow.holds Try.pinned (OpenSpec.ofChange fnExactConstantsSpec)

/-- ITS FALSE NEIGHBOUR: 'it returns false'. Refute it at one input. -/
def fnExactConstantsWrong : ChangeSpec := { name := "fnExactConstants", fn := fun _ => fun
  | [] => { results := [.lit (.bool false)], args := [] }
  | _ => none }
def FnExactConstantsWrongFalsely : Prop := fnExactConstantsRow.holds Try.pinned (OpenSpec.ofChange fnExactConstantsWrong)

/-- 'laws.FnExactTaiLess': WHATEVER THE INPUT: true; the input reads as it did. -/
def fnExactTaiLessSpec : ChangeSpec := { name := "fnExactTaiLess", fn := fun _ => fun
  | [d1, d2] => { results := [.lit (.bool true)], args := [d1, d2] }
  | _ => none }
def fnExactTaiLessRow : OpenClaim := { program := "ythflpgckojnbmaa", sum := "77596674c36e2bb83ab958ad3559776bee9cdf364117a496676b5808c1cba51a", func := "loop.example/s02974/laws.FnExactTaiLess", spec := "fnExactTaiLess", inPlace := ["internal/bytealg.Compare"], apart := false }
def FnExactTaiLessSaid : Prop := fnExactTaiLessRow.holds Try.pinned (OpenSpec.ofChange fnExactTaiLessSpec)

/-- ITS FALSE NEIGHBOUR: 'it returns false'. Refute it at one input. -/
def fnExactTaiLessWrong : ChangeSpec := { name := "fnExactTaiLess", fn := fun _ => fun
  | [d1, d2] => { results := [.lit (.bool false)], args := [d1, d2] }
  | _ => none }
def FnExactTaiLessWrongFalsely : Prop := fnExactTaiLessRow.holds Try.pinned (OpenSpec.ofChange fnExactTaiLessWrong)

/-- 'laws.FnExactLimitKey': WHATEVER THE INPUT: true; the input reads as it did. -/
def fnExactLimitKeySpec : ChangeSpec := { name := "fnExactLimitKey", fn := fun _ => fun
  | [d] => { results := [.lit (.bool true)], args := [d] }
  | _ => none }
def fnExactLimitKeyRow : OpenClaim := { program := "ythflpgckojnbmaa", sum := "77596674c36e2bb83ab958ad3559776bee9cdf364117a496676b5808c1cba51a", func := "loop.example/s02974/laws.FnExactLimitKey", spec := "fnExactLimitKey", apart := false }
def FnExactLimitKeySaid : Prop := fnExactLimitKeyRow.holds Try.pinned (OpenSpec.ofChange fnExactLimitKeySpec)

/-- ITS FALSE NEIGHBOUR: 'it returns false'. Refute it at one input. -/
def fnExactLimitKeyWrong : ChangeSpec := { name := "fnExactLimitKey", fn := fun _ => fun
  | [d] => { results := [.lit (.bool false)], args := [d] }
  | _ => none }
def FnExactLimitKeyWrongFalsely : Prop := fnExactLimitKeyRow.holds Try.pinned (OpenSpec.ofChange fnExactLimitKeyWrong)

/-- 'laws.FnExactTaiOf': WHATEVER THE INPUT: true; the input reads as it did. -/
def fnExactTaiOfSpec : ChangeSpec := { name := "fnExactTaiOf", fn := fun _ => fun
  | [d] => { results := [.lit (.bool true)], args := [d] }
  | _ => none }
def fnExactTaiOfRow : OpenClaim := { program := "ythflpgckojnbmaa", sum := "77596674c36e2bb83ab958ad3559776bee9cdf364117a496676b5808c1cba51a", func := "loop.example/s02974/laws.FnExactTaiOf", spec := "fnExactTaiOf", apart := false }
def FnExactTaiOfSaid : Prop := fnExactTaiOfRow.holds Try.pinned (OpenSpec.ofChange fnExactTaiOfSpec)

/-- ITS FALSE NEIGHBOUR: 'it returns false'. Refute it at one input. -/
def fnExactTaiOfWrong : ChangeSpec := { name := "fnExactTaiOf", fn := fun _ => fun
  | [d] => { results := [.lit (.bool false)], args := [d] }
  | _ => none }
def FnExactTaiOfWrongFalsely : Prop := fnExactTaiOfRow.holds Try.pinned (OpenSpec.ofChange fnExactTaiOfWrong)

/-- 'laws.FnExactWriteSource': WHATEVER THE INPUT: true; the input reads as it did. -/
def fnExactWriteSourceSpec : ChangeSpec := { name := "fnExactWriteSource", fn := fun _ => fun
  | [d] => { results := [.lit (.bool true)], args := [d] }
  | _ => none }
def fnExactWriteSourceRow : OpenClaim := { program := "ythflpgckojnbmaa", sum := "77596674c36e2bb83ab958ad3559776bee9cdf364117a496676b5808c1cba51a", func := "loop.example/s02974/laws.FnExactWriteSource", spec := "fnExactWriteSource", apart := false }
def FnExactWriteSourceSaid : Prop := fnExactWriteSourceRow.holds Try.pinned (OpenSpec.ofChange fnExactWriteSourceSpec)

/-- ITS FALSE NEIGHBOUR: 'it returns false'. Refute it at one input. -/
def fnExactWriteSourceWrong : ChangeSpec := { name := "fnExactWriteSource", fn := fun _ => fun
  | [d] => { results := [.lit (.bool false)], args := [d] }
  | _ => none }
def FnExactWriteSourceWrongFalsely : Prop := fnExactWriteSourceRow.holds Try.pinned (OpenSpec.ofChange fnExactWriteSourceWrong)

/-- 'laws.FnExactAdmit': WHATEVER THE INPUT: true; the input reads as it did. -/
def fnExactAdmitSpec : ChangeSpec := { name := "fnExactAdmit", fn := fun _ => fun
  | [d1, d2, d3] => { results := [.lit (.bool true)], args := [d1, d2, d3] }
  | _ => none }
def fnExactAdmitRow : OpenClaim := { program := "ythflpgckojnbmaa", sum := "77596674c36e2bb83ab958ad3559776bee9cdf364117a496676b5808c1cba51a", func := "loop.example/s02974/laws.FnExactAdmit", spec := "fnExactAdmit", inPlace := ["internal/bytealg.Compare"], apart := false }
def FnExactAdmitSaid : Prop := fnExactAdmitRow.holds Try.pinned (OpenSpec.ofChange fnExactAdmitSpec)

/-- ITS FALSE NEIGHBOUR: 'it returns false'. Refute it at one input. -/
def fnExactAdmitWrong : ChangeSpec := { name := "fnExactAdmit", fn := fun _ => fun
  | [d1, d2, d3] => { results := [.lit (.bool false)], args := [d1, d2, d3] }
  | _ => none }
def FnExactAdmitWrongFalsely : Prop := fnExactAdmitRow.holds Try.pinned (OpenSpec.ofChange fnExactAdmitWrong)

/-- 'laws.FnStamps': WHATEVER THE INPUT: true; the input reads as it did. -/
def fnStampsSpec : ChangeSpec := { name := "fnStamps", fn := fun _ => fun
  | [d] => { results := [.lit (.bool true)], args := [d] }
  | _ => none }
def fnStampsRow : OpenClaim := { program := "ythflpgckojnbmaa", sum := "77596674c36e2bb83ab958ad3559776bee9cdf364117a496676b5808c1cba51a", func := "loop.example/s02974/laws.FnStamps", spec := "fnStamps", inPlace := ["internal/bytealg.Compare"], apart := false }
def FnStampsSaid : Prop := fnStampsRow.holds Try.pinned (OpenSpec.ofChange fnStampsSpec)

/-- ITS FALSE NEIGHBOUR: 'it returns false'. Refute it at one input. -/
def fnStampsWrong : ChangeSpec := { name := "fnStamps", fn := fun _ => fun
  | [d] => { results := [.lit (.bool false)], args := [d] }
  | _ => none }
def FnStampsWrongFalsely : Prop := fnStampsRow.holds Try.pinned (OpenSpec.ofChange fnStampsWrong)

/-- 'laws.FnExactWriteReply': WHATEVER THE INPUT: true; the input reads as it did. -/
def fnExactWriteReplySpec : ChangeSpec := { name := "fnExactWriteReply", fn := fun _ => fun
  | [d] => { results := [.lit (.bool true)], args := [d] }
  | _ => none }
def fnExactWriteReplyRow : OpenClaim := { program := "ythflpgckojnbmaa", sum := "77596674c36e2bb83ab958ad3559776bee9cdf364117a496676b5808c1cba51a", func := "loop.example/s02974/laws.FnExactWriteReply", spec := "fnExactWriteReply", apart := false }
def FnExactWriteReplySaid : Prop := fnExactWriteReplyRow.holds Try.pinned (OpenSpec.ofChange fnExactWriteReplySpec)

/-- ITS FALSE NEIGHBOUR: 'it returns false'. Refute it at one input. -/
def fnExactWriteReplyWrong : ChangeSpec := { name := "fnExactWriteReply", fn := fun _ => fun
  | [d] => { results := [.lit (.bool false)], args := [d] }
  | _ => none }
def FnExactWriteReplyWrongFalsely : Prop := fnExactWriteReplyRow.holds Try.pinned (OpenSpec.ofChange fnExactWriteReplyWrong)

/-- 'laws.FnExactWriteInitiation': WHATEVER THE INPUT: true; the input reads as it did. -/
def fnExactWriteInitiationSpec : ChangeSpec := { name := "fnExactWriteInitiation", fn := fun _ => fun
  | [d] => { results := [.lit (.bool true)], args := [d] }
  | _ => none }
def fnExactWriteInitiationRow : OpenClaim := { program := "ythflpgckojnbmaa", sum := "77596674c36e2bb83ab958ad3559776bee9cdf364117a496676b5808c1cba51a", func := "loop.example/s02974/laws.FnExactWriteInitiation", spec := "fnExactWriteInitiation", apart := false }
def FnExactWriteInitiationSaid : Prop := fnExactWriteInitiationRow.holds Try.pinned (OpenSpec.ofChange fnExactWriteInitiationSpec)

/-- ITS FALSE NEIGHBOUR: 'it returns false'. Refute it at one input. -/
def fnExactWriteInitiationWrong : ChangeSpec := { name := "fnExactWriteInitiation", fn := fun _ => fun
  | [d] => { results := [.lit (.bool false)], args := [d] }
  | _ => none }
def FnExactWriteInitiationWrongFalsely : Prop := fnExactWriteInitiationRow.holds Try.pinned (OpenSpec.ofChange fnExactWriteInitiationWrong)

/- THE SECOND FORM. 'bulk': how many values and letters a reading holds, each counted each time it is reached (what is shared counts as often as it is met; a slice's spare places count too). A statement '..UptoSaid' is the law's where the arguments, and the package variables that the reading takes, are together of bulk at most 1048576: NARROWER than '..Said'. Prove '..Said' where nothing that the law and all that it calls make is longer than what came in: it says more and counts as full. Else prove '..UptoSaid'. A law counts once. -/
mutual
def uptoBulk {H : Type} : DataW H → Nat
  | .lit (.string bytes) => bytes.length + 1
  | .lit _ => 1
  | .nil => 1
  | .ptr d => uptoBulk d + 1
  | .slice elems spare => uptoBulkAll elems + uptoBulkAll spare + 1
  | .agg parts => uptoBulkAll parts + 1
  | .iface _ d => uptoBulk d + 1
  | .map entries => uptoBulkEntries entries + 1
  | .held _ => 1
def uptoBulkAll {H : Type} : List (DataW H) → Nat
  | [] => 0
  | d :: r => uptoBulk d + uptoBulkAll r
def uptoBulkEntries {H : Type} : List (Lit × DataW H) → Nat
  | [] => 0
  | x :: r => uptoBulkEntry x + uptoBulkEntries r
def uptoBulkEntry {H : Type} : Lit × DataW H → Nat
  | (.string bytes, d) => bytes.length + uptoBulk d + 1
  | (_, d) => uptoBulk d + 1
 end
def uptoSmall : (H : Type) → List (DataW H) → Bool := fun _ ds => decide (uptoBulkAll ds ≤ 1048576)
def OpenSpec.upto (s : _root_.Go.ChangeSpec) : _root_.Go.OpenSpec := { _root_.Go.OpenSpec.ofChange s with cond := some uptoSmall }

/-- 'laws.FnExactConstants', WHERE WHAT IT READS IS OF BULK AT MOST 1048576: true; the input reads as it did. -/
def fnExactConstantsUptoRow : OpenClaim := { program := "ythflpgckojnbmaa", sum := "77596674c36e2bb83ab958ad3559776bee9cdf364117a496676b5808c1cba51a", func := "loop.example/s02974/laws.FnExactConstants", spec := "fnExactConstants", apart := false, narrowed := true }
def FnExactConstantsUptoSaid : Prop := fnExactConstantsUptoRow.holds Try.pinned (OpenSpec.upto fnExactConstantsSpec)

/-- 'laws.FnExactTaiLess', WHERE WHAT IT READS IS OF BULK AT MOST 1048576: true; the input reads as it did. -/
def fnExactTaiLessUptoRow : OpenClaim := { program := "ythflpgckojnbmaa", sum := "77596674c36e2bb83ab958ad3559776bee9cdf364117a496676b5808c1cba51a", func := "loop.example/s02974/laws.FnExactTaiLess", spec := "fnExactTaiLess", inPlace := ["internal/bytealg.Compare"], apart := false, narrowed := true }
def FnExactTaiLessUptoSaid : Prop := fnExactTaiLessUptoRow.holds Try.pinned (OpenSpec.upto fnExactTaiLessSpec)

/-- 'laws.FnExactLimitKey', WHERE WHAT IT READS IS OF BULK AT MOST 1048576: true; the input reads as it did. -/
def fnExactLimitKeyUptoRow : OpenClaim := { program := "ythflpgckojnbmaa", sum := "77596674c36e2bb83ab958ad3559776bee9cdf364117a496676b5808c1cba51a", func := "loop.example/s02974/laws.FnExactLimitKey", spec := "fnExactLimitKey", apart := false, narrowed := true }
def FnExactLimitKeyUptoSaid : Prop := fnExactLimitKeyUptoRow.holds Try.pinned (OpenSpec.upto fnExactLimitKeySpec)

/-- 'laws.FnExactTaiOf', WHERE WHAT IT READS IS OF BULK AT MOST 1048576: true; the input reads as it did. -/
def fnExactTaiOfUptoRow : OpenClaim := { program := "ythflpgckojnbmaa", sum := "77596674c36e2bb83ab958ad3559776bee9cdf364117a496676b5808c1cba51a", func := "loop.example/s02974/laws.FnExactTaiOf", spec := "fnExactTaiOf", apart := false, narrowed := true }
def FnExactTaiOfUptoSaid : Prop := fnExactTaiOfUptoRow.holds Try.pinned (OpenSpec.upto fnExactTaiOfSpec)

/-- 'laws.FnExactWriteSource', WHERE WHAT IT READS IS OF BULK AT MOST 1048576: true; the input reads as it did. -/
def fnExactWriteSourceUptoRow : OpenClaim := { program := "ythflpgckojnbmaa", sum := "77596674c36e2bb83ab958ad3559776bee9cdf364117a496676b5808c1cba51a", func := "loop.example/s02974/laws.FnExactWriteSource", spec := "fnExactWriteSource", apart := false, narrowed := true }
def FnExactWriteSourceUptoSaid : Prop := fnExactWriteSourceUptoRow.holds Try.pinned (OpenSpec.upto fnExactWriteSourceSpec)

/-- 'laws.FnExactAdmit', WHERE WHAT IT READS IS OF BULK AT MOST 1048576: true; the input reads as it did. -/
def fnExactAdmitUptoRow : OpenClaim := { program := "ythflpgckojnbmaa", sum := "77596674c36e2bb83ab958ad3559776bee9cdf364117a496676b5808c1cba51a", func := "loop.example/s02974/laws.FnExactAdmit", spec := "fnExactAdmit", inPlace := ["internal/bytealg.Compare"], apart := false, narrowed := true }
def FnExactAdmitUptoSaid : Prop := fnExactAdmitUptoRow.holds Try.pinned (OpenSpec.upto fnExactAdmitSpec)

/-- 'laws.FnStamps', WHERE WHAT IT READS IS OF BULK AT MOST 1048576: true; the input reads as it did. -/
def fnStampsUptoRow : OpenClaim := { program := "ythflpgckojnbmaa", sum := "77596674c36e2bb83ab958ad3559776bee9cdf364117a496676b5808c1cba51a", func := "loop.example/s02974/laws.FnStamps", spec := "fnStamps", inPlace := ["internal/bytealg.Compare"], apart := false, narrowed := true }
def FnStampsUptoSaid : Prop := fnStampsUptoRow.holds Try.pinned (OpenSpec.upto fnStampsSpec)

/-- 'laws.FnExactWriteReply', WHERE WHAT IT READS IS OF BULK AT MOST 1048576: true; the input reads as it did. -/
def fnExactWriteReplyUptoRow : OpenClaim := { program := "ythflpgckojnbmaa", sum := "77596674c36e2bb83ab958ad3559776bee9cdf364117a496676b5808c1cba51a", func := "loop.example/s02974/laws.FnExactWriteReply", spec := "fnExactWriteReply", apart := false, narrowed := true }
def FnExactWriteReplyUptoSaid : Prop := fnExactWriteReplyUptoRow.holds Try.pinned (OpenSpec.upto fnExactWriteReplySpec)

/-- 'laws.FnExactWriteInitiation', WHERE WHAT IT READS IS OF BULK AT MOST 1048576: true; the input reads as it did. -/
def fnExactWriteInitiationUptoRow : OpenClaim := { program := "ythflpgckojnbmaa", sum := "77596674c36e2bb83ab958ad3559776bee9cdf364117a496676b5808c1cba51a", func := "loop.example/s02974/laws.FnExactWriteInitiation", spec := "fnExactWriteInitiation", apart := false, narrowed := true }
def FnExactWriteInitiationUptoSaid : Prop := fnExactWriteInitiationUptoRow.holds Try.pinned (OpenSpec.upto fnExactWriteInitiationSpec)

end Rows
end Go.Proofs.Ythflpgckojnbmaa
