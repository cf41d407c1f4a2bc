/-
  NARROWER THAN 'FOR EVERY INPUT', by the rows' own cells (each row's printed sentence says how): FnExactParseReply: ifaces, laid · FnExactParseInitiation: ifaces, laid · FnWire: ifaces, laid.
  DERIVED. THE GIVEN ROWS OF THIS SEAT. 3 by the template 'for every input the law returns true; each argument reads behind the call as it read before'; 0 by the template 'total and deterministic' (their statements: YthflpgckojnbmaaDoorTotals.lean).
  GIVEN WITH THE SEED: the statements are not yours to turn. If you find one false, say at which input.
  Laid BY PROGRAM, IN A SANDBOX (cutbox-rows.mjs): the forced cells as the released guide's own fill.sh prints them over the translation 507ad950a8a69956… (all of the seat's roots in one cut). By AI agents, Wed Nov 11 2026. No macro, syntax, notation, axiom, sorry.
-/
import Derived.Test.YthflpgckojnbmaaDoorChecked
import GoSem.Claim
import GoSem.ClaimJoined
import GoSem.ClaimMapViews
import Derived.JoinedTies
import Derived.KernelRfl
namespace Go.Proofs.YthflpgckojnbmaaDoor
/- THE CELL 'sum', in the pinned program and in every row, IS THE sha256 OF THE DUMP (.gsa) THAT YthflpgckojnbmaaDoorProg.lean LOADS. Nothing in Lean hashes anything: it is a label: what it is worth is what the hold of that sum in a sandbox is worth. -/
noncomputable def Tryd.pinned : Pinned := { name := "ythflpgckojnbmaadoor", sum := "507ad950a8a69956ce9921a3bbf4658cff846e6ef19b3076c04c148a16509f9d", checked := Tryd.checked }
namespace Rows
def none {H : Type} : Left H := { results := [], args := [] }

/- WHAT THE LISTED PACKAGE-LEVEL VARIABLES READ AS WHEN THE CALL BEGINS. Each datum BY PROGRAM (the guide's laid-datum.mjs) off the statement by which the dump's own 'gosem.cut.vars' lays the variable. In a bare row this is a premise. The card (YthflpgckojnbmaaDoorCards.lean) ties it to the program's text. -/
def laid_loop_example_s02974_impl_errShape {H : Type} : DataW H := .iface "*errors.errorString" (.ptr (.agg [.lit (.string [97, 110, 111, 116, 104, 101, 114, 32, 108, 101, 110, 103, 116, 104, 32, 111, 114, 32, 98, 101, 103, 105, 110, 110, 105, 110, 103])]))

/-- 'laws.FnExactParseReply': WHATEVER THE INPUT: true; the input reads as it did. -/
def fnExactParseReplySpec : ChangeSpec := { name := "fnExactParseReply", vars := ["loop.example/s02974/impl.errShape"], fn := fun _ => fun
  | [d, g1] => { results := [.lit (.bool true)], args := [d], vars := [g1] }
  | _ => none }
def fnExactParseReplyRow : OpenClaim := { program := "ythflpgckojnbmaadoor", sum := "507ad950a8a69956ce9921a3bbf4658cff846e6ef19b3076c04c148a16509f9d", func := "loop.example/s02974/laws.FnExactParseReply", spec := "fnExactParseReply", inPlace := ["internal/reflectlite.TypeOf"], unfollowed := true, recurses := true, named := ["loop.example/s02974/impl.errShape"], ifaces := true, apart := false, laid := [("loop.example/s02974/impl.errShape", laid_loop_example_s02974_impl_errShape)] }
def FnExactParseReplySaid : Prop := fnExactParseReplyRow.holds Tryd.pinned (OpenSpec.ofChange fnExactParseReplySpec)

/-- ITS FALSE NEIGHBOUR: 'it returns false'. Refute it at one input. -/
def fnExactParseReplyWrong : ChangeSpec := { name := "fnExactParseReply", vars := ["loop.example/s02974/impl.errShape"], fn := fun _ => fun
  | [d, g1] => { results := [.lit (.bool false)], args := [d], vars := [g1] }
  | _ => none }
def FnExactParseReplyWrongFalsely : Prop := fnExactParseReplyRow.holds Tryd.pinned (OpenSpec.ofChange fnExactParseReplyWrong)

/-- 'laws.FnExactParseInitiation': WHATEVER THE INPUT: true; the input reads as it did. -/
def fnExactParseInitiationSpec : ChangeSpec := { name := "fnExactParseInitiation", vars := ["loop.example/s02974/impl.errShape"], fn := fun _ => fun
  | [d, g1] => { results := [.lit (.bool true)], args := [d], vars := [g1] }
  | _ => none }
def fnExactParseInitiationRow : OpenClaim := { program := "ythflpgckojnbmaadoor", sum := "507ad950a8a69956ce9921a3bbf4658cff846e6ef19b3076c04c148a16509f9d", func := "loop.example/s02974/laws.FnExactParseInitiation", spec := "fnExactParseInitiation", inPlace := ["internal/reflectlite.TypeOf"], unfollowed := true, recurses := true, named := ["loop.example/s02974/impl.errShape"], ifaces := true, apart := false, laid := [("loop.example/s02974/impl.errShape", laid_loop_example_s02974_impl_errShape)] }
def FnExactParseInitiationSaid : Prop := fnExactParseInitiationRow.holds Tryd.pinned (OpenSpec.ofChange fnExactParseInitiationSpec)

/-- ITS FALSE NEIGHBOUR: 'it returns false'. Refute it at one input. -/
def fnExactParseInitiationWrong : ChangeSpec := { name := "fnExactParseInitiation", vars := ["loop.example/s02974/impl.errShape"], fn := fun _ => fun
  | [d, g1] => { results := [.lit (.bool false)], args := [d], vars := [g1] }
  | _ => none }
def FnExactParseInitiationWrongFalsely : Prop := fnExactParseInitiationRow.holds Tryd.pinned (OpenSpec.ofChange fnExactParseInitiationWrong)

/-- 'laws.FnWire': WHATEVER THE INPUT: true; the input reads as it did. -/
def fnWireSpec : ChangeSpec := { name := "fnWire", vars := ["loop.example/s02974/impl.errShape"], fn := fun _ => fun
  | [d, g1] => { results := [.lit (.bool true)], args := [d], vars := [g1] }
  | _ => none }
def fnWireRow : OpenClaim := { program := "ythflpgckojnbmaadoor", sum := "507ad950a8a69956ce9921a3bbf4658cff846e6ef19b3076c04c148a16509f9d", func := "loop.example/s02974/laws.FnWire", spec := "fnWire", inPlace := ["internal/reflectlite.TypeOf"], unfollowed := true, recurses := true, named := ["loop.example/s02974/impl.errShape"], ifaces := true, apart := false, laid := [("loop.example/s02974/impl.errShape", laid_loop_example_s02974_impl_errShape)] }
def FnWireSaid : Prop := fnWireRow.holds Tryd.pinned (OpenSpec.ofChange fnWireSpec)

/-- ITS FALSE NEIGHBOUR: 'it returns false'. Refute it at one input. -/
def fnWireWrong : ChangeSpec := { name := "fnWire", vars := ["loop.example/s02974/impl.errShape"], fn := fun _ => fun
  | [d, g1] => { results := [.lit (.bool false)], args := [d], vars := [g1] }
  | _ => none }
def FnWireWrongFalsely : Prop := fnWireRow.holds Tryd.pinned (OpenSpec.ofChange fnWireWrong)

/- THE SECOND FORM. 'bulk': how many values and letters a reading holds, each counted each time it is reached (what is shared counts as often as it is met; a slice's spare places count too). A statement '..UptoSaid' is the law's where the arguments, and the package variables that the reading takes, are together of bulk at most 1048576: NARROWER than '..Said'. Prove '..Said' where nothing that the law and all that it calls make is longer than what came in: it says more and counts as full. Else prove '..UptoSaid'. A law counts once. -/
mutual
def uptoBulk {H : Type} : DataW H → Nat
  | .lit (.string bytes) => bytes.length + 1
  | .lit _ => 1
  | .nil => 1
  | .ptr d => uptoBulk d + 1
  | .slice elems spare => uptoBulkAll elems + uptoBulkAll spare + 1
  | .agg parts => uptoBulkAll parts + 1
  | .iface _ d => uptoBulk d + 1
  | .map entries => uptoBulkEntries entries + 1
  | .held _ => 1
def uptoBulkAll {H : Type} : List (DataW H) → Nat
  | [] => 0
  | d :: r => uptoBulk d + uptoBulkAll r
def uptoBulkEntries {H : Type} : List (Lit × DataW H) → Nat
  | [] => 0
  | x :: r => uptoBulkEntry x + uptoBulkEntries r
def uptoBulkEntry {H : Type} : Lit × DataW H → Nat
  | (.string bytes, d) => bytes.length + uptoBulk d + 1
  | (_, d) => uptoBulk d + 1
 end
def uptoSmall : (H : Type) → List (DataW H) → Bool := fun _ ds => decide (uptoBulkAll ds ≤ 1048576)
def OpenSpec.upto (s : _root_.Go.ChangeSpec) : _root_.Go.OpenSpec := { _root_.Go.OpenSpec.ofChange s with cond := some uptoSmall }

/-- 'laws.FnExactParseReply', WHERE WHAT IT READS IS OF BULK AT MOST 1048576: true; the input reads as it did. -/
def fnExactParseReplyUptoRow : OpenClaim := { program := "ythflpgckojnbmaadoor", sum := "507ad950a8a69956ce9921a3bbf4658cff846e6ef19b3076c04c148a16509f9d", func := "loop.example/s02974/laws.FnExactParseReply", spec := "fnExactParseReply", inPlace := ["internal/reflectlite.TypeOf"], unfollowed := true, recurses := true, named := ["loop.example/s02974/impl.errShape"], ifaces := true, apart := false, laid := [("loop.example/s02974/impl.errShape", laid_loop_example_s02974_impl_errShape)], narrowed := true }
def FnExactParseReplyUptoSaid : Prop := fnExactParseReplyUptoRow.holds Tryd.pinned (OpenSpec.upto fnExactParseReplySpec)

/-- 'laws.FnExactParseInitiation', WHERE WHAT IT READS IS OF BULK AT MOST 1048576: true; the input reads as it did. -/
def fnExactParseInitiationUptoRow : OpenClaim := { program := "ythflpgckojnbmaadoor", sum := "507ad950a8a69956ce9921a3bbf4658cff846e6ef19b3076c04c148a16509f9d", func := "loop.example/s02974/laws.FnExactParseInitiation", spec := "fnExactParseInitiation", inPlace := ["internal/reflectlite.TypeOf"], unfollowed := true, recurses := true, named := ["loop.example/s02974/impl.errShape"], ifaces := true, apart := false, laid := [("loop.example/s02974/impl.errShape", laid_loop_example_s02974_impl_errShape)], narrowed := true }
def FnExactParseInitiationUptoSaid : Prop := fnExactParseInitiationUptoRow.holds Tryd.pinned (OpenSpec.upto fnExactParseInitiationSpec)

/-- 'laws.FnWire', WHERE WHAT IT READS IS OF BULK AT MOST 1048576: true; the input reads as it did. -/
def fnWireUptoRow : OpenClaim := { program := "ythflpgckojnbmaadoor", sum := "507ad950a8a69956ce9921a3bbf4658cff846e6ef19b3076c04c148a16509f9d", func := "loop.example/s02974/laws.FnWire", spec := "fnWire", inPlace := ["internal/reflectlite.TypeOf"], unfollowed := true, recurses := true, named := ["loop.example/s02974/impl.errShape"], ifaces := true, apart := false, laid := [("loop.example/s02974/impl.errShape", laid_loop_example_s02974_impl_errShape)], narrowed := true }
def FnWireUptoSaid : Prop := fnWireUptoRow.holds Tryd.pinned (OpenSpec.upto fnWireSpec)

end Rows
end Go.Proofs.YthflpgckojnbmaaDoor
