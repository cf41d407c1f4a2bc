/-
  NARROWER THAN 'FOR EVERY INPUT', by the rows' own cells (each row's printed sentence says how): FnExactChaBlock: laid · FnExactHChaCha: laid · FnExactSeal: laid · FnExactOpen: laid · FnExactXSeal: laid · FnExactXOpen: laid · FnSealing: laid.
  DERIVED. THE GIVEN ROWS OF THIS SEAT. 7 by the template 'for every input the law returns true; each argument reads behind the call as it read before'; 0 by the template 'total and deterministic' (their statements: YtgnbmjhljlbkhaaDoorTotals.lean).
  GIVEN WITH THE SEED: the statements are not yours to turn. If you find one false, say at which input.
  Laid BY PROGRAM, IN A SANDBOX (cutbox-rows.mjs): the forced cells as the released guide's own fill.sh prints them over the translation fd8c57302f8fc952… (all of the seat's roots in one cut). By AI agents, Wed Nov 11 2026. No macro, syntax, notation, axiom, sorry.
-/
import Derived.Test.YtgnbmjhljlbkhaaDoorChecked
import GoSem.Claim
import GoSem.ClaimJoined
import GoSem.ClaimMapViews
import Derived.JoinedTies
import Derived.KernelRfl
namespace Go.Proofs.YtgnbmjhljlbkhaaDoor
/- THE CELL 'sum', in the pinned program and in every row, IS THE sha256 OF THE DUMP (.gsa) THAT YtgnbmjhljlbkhaaDoorProg.lean LOADS. Nothing in Lean hashes anything: it is a label: what it is worth is what the hold of that sum in a sandbox is worth. -/
noncomputable def Tryd.pinned : Pinned := { name := "ytgnbmjhljlbkhaadoor", sum := "fd8c57302f8fc952f898a7b93370028a849c03927b15b0de9a3cd30bf77d1dd0", checked := Tryd.checked }
namespace Rows
def none {H : Type} : Left H := { results := [], args := [] }

/- WHAT THE LISTED PACKAGE-LEVEL VARIABLES READ AS WHEN THE CALL BEGINS. Each datum BY PROGRAM (the guide's laid-datum.mjs) off the statement by which the dump's own 'gosem.cut.vars' lays the variable. In a bare row this is a premise. The card (YtgnbmjhljlbkhaaDoorCards.lean) ties it to the program's text. -/
def laid_loop_example_s02974_impl_chaWords {H : Type} : DataW H := .agg [.lit (.int .u32 1634760805), .lit (.int .u32 857760878), .lit (.int .u32 2036477234), .lit (.int .u32 1797285236)]

/-- 'laws.FnExactChaBlock': WHATEVER THE INPUT: true; the input reads as it did. -/
def fnExactChaBlockSpec : ChangeSpec := { name := "fnExactChaBlock", vars := ["loop.example/s02974/impl.chaWords"], fn := fun _ => fun
  | [d1, d2, d3, g1] => { results := [.lit (.bool true)], args := [d1, d2, d3], vars := [g1] }
  | _ => none }
def fnExactChaBlockRow : OpenClaim := { program := "ytgnbmjhljlbkhaadoor", sum := "fd8c57302f8fc952f898a7b93370028a849c03927b15b0de9a3cd30bf77d1dd0", func := "loop.example/s02974/laws.FnExactChaBlock", spec := "fnExactChaBlock", named := ["loop.example/s02974/impl.chaWords"], apart := false, laid := [("loop.example/s02974/impl.chaWords", laid_loop_example_s02974_impl_chaWords)] }
def FnExactChaBlockSaid : Prop := fnExactChaBlockRow.holds Tryd.pinned (OpenSpec.ofChange fnExactChaBlockSpec)

/-- ITS FALSE NEIGHBOUR: 'it returns false'. Refute it at one input. -/
def fnExactChaBlockWrong : ChangeSpec := { name := "fnExactChaBlock", vars := ["loop.example/s02974/impl.chaWords"], fn := fun _ => fun
  | [d1, d2, d3, g1] => { results := [.lit (.bool false)], args := [d1, d2, d3], vars := [g1] }
  | _ => none }
def FnExactChaBlockWrongFalsely : Prop := fnExactChaBlockRow.holds Tryd.pinned (OpenSpec.ofChange fnExactChaBlockWrong)

/-- 'laws.FnExactHChaCha': WHATEVER THE INPUT: true; the input reads as it did. -/
def fnExactHChaChaSpec : ChangeSpec := { name := "fnExactHChaCha", vars := ["loop.example/s02974/impl.chaWords"], fn := fun _ => fun
  | [d1, d2, g1] => { results := [.lit (.bool true)], args := [d1, d2], vars := [g1] }
  | _ => none }
def fnExactHChaChaRow : OpenClaim := { program := "ytgnbmjhljlbkhaadoor", sum := "fd8c57302f8fc952f898a7b93370028a849c03927b15b0de9a3cd30bf77d1dd0", func := "loop.example/s02974/laws.FnExactHChaCha", spec := "fnExactHChaCha", named := ["loop.example/s02974/impl.chaWords"], apart := false, laid := [("loop.example/s02974/impl.chaWords", laid_loop_example_s02974_impl_chaWords)] }
def FnExactHChaChaSaid : Prop := fnExactHChaChaRow.holds Tryd.pinned (OpenSpec.ofChange fnExactHChaChaSpec)

/-- ITS FALSE NEIGHBOUR: 'it returns false'. Refute it at one input. -/
def fnExactHChaChaWrong : ChangeSpec := { name := "fnExactHChaCha", vars := ["loop.example/s02974/impl.chaWords"], fn := fun _ => fun
  | [d1, d2, g1] => { results := [.lit (.bool false)], args := [d1, d2], vars := [g1] }
  | _ => none }
def FnExactHChaChaWrongFalsely : Prop := fnExactHChaChaRow.holds Tryd.pinned (OpenSpec.ofChange fnExactHChaChaWrong)

/-- 'laws.FnExactSeal': WHATEVER THE INPUT: true; the input reads as it did. -/
def fnExactSealSpec : ChangeSpec := { name := "fnExactSeal", vars := ["loop.example/s02974/impl.chaWords"], fn := fun _ => fun
  | [d1, d2, d3, d4, g1] => { results := [.lit (.bool true)], args := [d1, d2, d3, d4], vars := [g1] }
  | _ => none }
def fnExactSealRow : OpenClaim := { program := "ytgnbmjhljlbkhaadoor", sum := "fd8c57302f8fc952f898a7b93370028a849c03927b15b0de9a3cd30bf77d1dd0", func := "loop.example/s02974/laws.FnExactSeal", spec := "fnExactSeal", inPlace := ["math/bits.Add64"], named := ["loop.example/s02974/impl.chaWords"], apart := false, laid := [("loop.example/s02974/impl.chaWords", laid_loop_example_s02974_impl_chaWords)] }
def FnExactSealSaid : Prop := fnExactSealRow.holds Tryd.pinned (OpenSpec.ofChange fnExactSealSpec)

/-- ITS FALSE NEIGHBOUR: 'it returns false'. Refute it at one input. -/
def fnExactSealWrong : ChangeSpec := { name := "fnExactSeal", vars := ["loop.example/s02974/impl.chaWords"], fn := fun _ => fun
  | [d1, d2, d3, d4, g1] => { results := [.lit (.bool false)], args := [d1, d2, d3, d4], vars := [g1] }
  | _ => none }
def FnExactSealWrongFalsely : Prop := fnExactSealRow.holds Tryd.pinned (OpenSpec.ofChange fnExactSealWrong)

/-- 'laws.FnExactOpen': WHATEVER THE INPUT: true; the input reads as it did. -/
def fnExactOpenSpec : ChangeSpec := { name := "fnExactOpen", vars := ["loop.example/s02974/impl.chaWords"], fn := fun _ => fun
  | [d1, d2, d3, d4, g1] => { results := [.lit (.bool true)], args := [d1, d2, d3, d4], vars := [g1] }
  | _ => none }
def fnExactOpenRow : OpenClaim := { program := "ytgnbmjhljlbkhaadoor", sum := "fd8c57302f8fc952f898a7b93370028a849c03927b15b0de9a3cd30bf77d1dd0", func := "loop.example/s02974/laws.FnExactOpen", spec := "fnExactOpen", inPlace := ["math/bits.Add64"], named := ["loop.example/s02974/impl.chaWords"], apart := false, laid := [("loop.example/s02974/impl.chaWords", laid_loop_example_s02974_impl_chaWords)] }
def FnExactOpenSaid : Prop := fnExactOpenRow.holds Tryd.pinned (OpenSpec.ofChange fnExactOpenSpec)

/-- ITS FALSE NEIGHBOUR: 'it returns false'. Refute it at one input. -/
def fnExactOpenWrong : ChangeSpec := { name := "fnExactOpen", vars := ["loop.example/s02974/impl.chaWords"], fn := fun _ => fun
  | [d1, d2, d3, d4, g1] => { results := [.lit (.bool false)], args := [d1, d2, d3, d4], vars := [g1] }
  | _ => none }
def FnExactOpenWrongFalsely : Prop := fnExactOpenRow.holds Tryd.pinned (OpenSpec.ofChange fnExactOpenWrong)

/-- 'laws.FnExactXSeal': WHATEVER THE INPUT: true; the input reads as it did. -/
def fnExactXSealSpec : ChangeSpec := { name := "fnExactXSeal", vars := ["loop.example/s02974/impl.chaWords"], fn := fun _ => fun
  | [d1, d2, d3, d4, g1] => { results := [.lit (.bool true)], args := [d1, d2, d3, d4], vars := [g1] }
  | _ => none }
def fnExactXSealRow : OpenClaim := { program := "ytgnbmjhljlbkhaadoor", sum := "fd8c57302f8fc952f898a7b93370028a849c03927b15b0de9a3cd30bf77d1dd0", func := "loop.example/s02974/laws.FnExactXSeal", spec := "fnExactXSeal", inPlace := ["math/bits.Add64"], named := ["loop.example/s02974/impl.chaWords"], apart := false, laid := [("loop.example/s02974/impl.chaWords", laid_loop_example_s02974_impl_chaWords)] }
def FnExactXSealSaid : Prop := fnExactXSealRow.holds Tryd.pinned (OpenSpec.ofChange fnExactXSealSpec)

/-- ITS FALSE NEIGHBOUR: 'it returns false'. Refute it at one input. -/
def fnExactXSealWrong : ChangeSpec := { name := "fnExactXSeal", vars := ["loop.example/s02974/impl.chaWords"], fn := fun _ => fun
  | [d1, d2, d3, d4, g1] => { results := [.lit (.bool false)], args := [d1, d2, d3, d4], vars := [g1] }
  | _ => none }
def FnExactXSealWrongFalsely : Prop := fnExactXSealRow.holds Tryd.pinned (OpenSpec.ofChange fnExactXSealWrong)

/-- 'laws.FnExactXOpen': WHATEVER THE INPUT: true; the input reads as it did. -/
def fnExactXOpenSpec : ChangeSpec := { name := "fnExactXOpen", vars := ["loop.example/s02974/impl.chaWords"], fn := fun _ => fun
  | [d1, d2, d3, d4, g1] => { results := [.lit (.bool true)], args := [d1, d2, d3, d4], vars := [g1] }
  | _ => none }
def fnExactXOpenRow : OpenClaim := { program := "ytgnbmjhljlbkhaadoor", sum := "fd8c57302f8fc952f898a7b93370028a849c03927b15b0de9a3cd30bf77d1dd0", func := "loop.example/s02974/laws.FnExactXOpen", spec := "fnExactXOpen", inPlace := ["math/bits.Add64"], named := ["loop.example/s02974/impl.chaWords"], apart := false, laid := [("loop.example/s02974/impl.chaWords", laid_loop_example_s02974_impl_chaWords)] }
def FnExactXOpenSaid : Prop := fnExactXOpenRow.holds Tryd.pinned (OpenSpec.ofChange fnExactXOpenSpec)

/-- ITS FALSE NEIGHBOUR: 'it returns false'. Refute it at one input. -/
def fnExactXOpenWrong : ChangeSpec := { name := "fnExactXOpen", vars := ["loop.example/s02974/impl.chaWords"], fn := fun _ => fun
  | [d1, d2, d3, d4, g1] => { results := [.lit (.bool false)], args := [d1, d2, d3, d4], vars := [g1] }
  | _ => none }
def FnExactXOpenWrongFalsely : Prop := fnExactXOpenRow.holds Tryd.pinned (OpenSpec.ofChange fnExactXOpenWrong)

/-- 'laws.FnSealing': WHATEVER THE INPUT: true; the input reads as it did. -/
def fnSealingSpec : ChangeSpec := { name := "fnSealing", vars := ["loop.example/s02974/impl.chaWords"], fn := fun _ => fun
  | [d, g1] => { results := [.lit (.bool true)], args := [d], vars := [g1] }
  | _ => none }
def fnSealingRow : OpenClaim := { program := "ytgnbmjhljlbkhaadoor", sum := "fd8c57302f8fc952f898a7b93370028a849c03927b15b0de9a3cd30bf77d1dd0", func := "loop.example/s02974/laws.FnSealing", spec := "fnSealing", inPlace := ["math/bits.Add64"], named := ["loop.example/s02974/impl.chaWords"], apart := false, laid := [("loop.example/s02974/impl.chaWords", laid_loop_example_s02974_impl_chaWords)] }
def FnSealingSaid : Prop := fnSealingRow.holds Tryd.pinned (OpenSpec.ofChange fnSealingSpec)

/-- ITS FALSE NEIGHBOUR: 'it returns false'. Refute it at one input. -/
def fnSealingWrong : ChangeSpec := { name := "fnSealing", vars := ["loop.example/s02974/impl.chaWords"], fn := fun _ => fun
  | [d, g1] => { results := [.lit (.bool false)], args := [d], vars := [g1] }
  | _ => none }
def FnSealingWrongFalsely : Prop := fnSealingRow.holds Tryd.pinned (OpenSpec.ofChange fnSealingWrong)

/- THE SECOND FORM. 'bulk': how many values and letters a reading holds, each counted each time it is reached (what is shared counts as often as it is met; a slice's spare places count too). A statement '..UptoSaid' is the law's where the arguments, and the package variables that the reading takes, are together of bulk at most 1048576: NARROWER than '..Said'. Prove '..Said' where nothing that the law and all that it calls make is longer than what came in: it says more and counts as full. Else prove '..UptoSaid'. A law counts once. -/
mutual
def uptoBulk {H : Type} : DataW H → Nat
  | .lit (.string bytes) => bytes.length + 1
  | .lit _ => 1
  | .nil => 1
  | .ptr d => uptoBulk d + 1
  | .slice elems spare => uptoBulkAll elems + uptoBulkAll spare + 1
  | .agg parts => uptoBulkAll parts + 1
  | .iface _ d => uptoBulk d + 1
  | .map entries => uptoBulkEntries entries + 1
  | .held _ => 1
def uptoBulkAll {H : Type} : List (DataW H) → Nat
  | [] => 0
  | d :: r => uptoBulk d + uptoBulkAll r
def uptoBulkEntries {H : Type} : List (Lit × DataW H) → Nat
  | [] => 0
  | x :: r => uptoBulkEntry x + uptoBulkEntries r
def uptoBulkEntry {H : Type} : Lit × DataW H → Nat
  | (.string bytes, d) => bytes.length + uptoBulk d + 1
  | (_, d) => uptoBulk d + 1
 end
def uptoSmall : (H : Type) → List (DataW H) → Bool := fun _ ds => decide (uptoBulkAll ds ≤ 1048576)
def OpenSpec.upto (s : _root_.Go.ChangeSpec) : _root_.Go.OpenSpec := { _root_.Go.OpenSpec.ofChange s with cond := some uptoSmall }

/-- 'laws.FnExactChaBlock', WHERE WHAT IT READS IS OF BULK AT MOST 1048576: true; the input reads as it did. -/
def fnExactChaBlockUptoRow : OpenClaim := { program := "ytgnbmjhljlbkhaadoor", sum := "fd8c57302f8fc952f898a7b93370028a849c03927b15b0de9a3cd30bf77d1dd0", func := "loop.example/s02974/laws.FnExactChaBlock", spec := "fnExactChaBlock", named := ["loop.example/s02974/impl.chaWords"], apart := false, laid := [("loop.example/s02974/impl.chaWords", laid_loop_example_s02974_impl_chaWords)], narrowed := true }
def FnExactChaBlockUptoSaid : Prop := fnExactChaBlockUptoRow.holds Tryd.pinned (OpenSpec.upto fnExactChaBlockSpec)

/-- 'laws.FnExactHChaCha', WHERE WHAT IT READS IS OF BULK AT MOST 1048576: true; the input reads as it did. -/
def fnExactHChaChaUptoRow : OpenClaim := { program := "ytgnbmjhljlbkhaadoor", sum := "fd8c57302f8fc952f898a7b93370028a849c03927b15b0de9a3cd30bf77d1dd0", func := "loop.example/s02974/laws.FnExactHChaCha", spec := "fnExactHChaCha", named := ["loop.example/s02974/impl.chaWords"], apart := false, laid := [("loop.example/s02974/impl.chaWords", laid_loop_example_s02974_impl_chaWords)], narrowed := true }
def FnExactHChaChaUptoSaid : Prop := fnExactHChaChaUptoRow.holds Tryd.pinned (OpenSpec.upto fnExactHChaChaSpec)

/-- 'laws.FnExactSeal', WHERE WHAT IT READS IS OF BULK AT MOST 1048576: true; the input reads as it did. -/
def fnExactSealUptoRow : OpenClaim := { program := "ytgnbmjhljlbkhaadoor", sum := "fd8c57302f8fc952f898a7b93370028a849c03927b15b0de9a3cd30bf77d1dd0", func := "loop.example/s02974/laws.FnExactSeal", spec := "fnExactSeal", inPlace := ["math/bits.Add64"], named := ["loop.example/s02974/impl.chaWords"], apart := false, laid := [("loop.example/s02974/impl.chaWords", laid_loop_example_s02974_impl_chaWords)], narrowed := true }
def FnExactSealUptoSaid : Prop := fnExactSealUptoRow.holds Tryd.pinned (OpenSpec.upto fnExactSealSpec)

/-- 'laws.FnExactOpen', WHERE WHAT IT READS IS OF BULK AT MOST 1048576: true; the input reads as it did. -/
def fnExactOpenUptoRow : OpenClaim := { program := "ytgnbmjhljlbkhaadoor", sum := "fd8c57302f8fc952f898a7b93370028a849c03927b15b0de9a3cd30bf77d1dd0", func := "loop.example/s02974/laws.FnExactOpen", spec := "fnExactOpen", inPlace := ["math/bits.Add64"], named := ["loop.example/s02974/impl.chaWords"], apart := false, laid := [("loop.example/s02974/impl.chaWords", laid_loop_example_s02974_impl_chaWords)], narrowed := true }
def FnExactOpenUptoSaid : Prop := fnExactOpenUptoRow.holds Tryd.pinned (OpenSpec.upto fnExactOpenSpec)

/-- 'laws.FnExactXSeal', WHERE WHAT IT READS IS OF BULK AT MOST 1048576: true; the input reads as it did. -/
def fnExactXSealUptoRow : OpenClaim := { program := "ytgnbmjhljlbkhaadoor", sum := "fd8c57302f8fc952f898a7b93370028a849c03927b15b0de9a3cd30bf77d1dd0", func := "loop.example/s02974/laws.FnExactXSeal", spec := "fnExactXSeal", inPlace := ["math/bits.Add64"], named := ["loop.example/s02974/impl.chaWords"], apart := false, laid := [("loop.example/s02974/impl.chaWords", laid_loop_example_s02974_impl_chaWords)], narrowed := true }
def FnExactXSealUptoSaid : Prop := fnExactXSealUptoRow.holds Tryd.pinned (OpenSpec.upto fnExactXSealSpec)

/-- 'laws.FnExactXOpen', WHERE WHAT IT READS IS OF BULK AT MOST 1048576: true; the input reads as it did. -/
def fnExactXOpenUptoRow : OpenClaim := { program := "ytgnbmjhljlbkhaadoor", sum := "fd8c57302f8fc952f898a7b93370028a849c03927b15b0de9a3cd30bf77d1dd0", func := "loop.example/s02974/laws.FnExactXOpen", spec := "fnExactXOpen", inPlace := ["math/bits.Add64"], named := ["loop.example/s02974/impl.chaWords"], apart := false, laid := [("loop.example/s02974/impl.chaWords", laid_loop_example_s02974_impl_chaWords)], narrowed := true }
def FnExactXOpenUptoSaid : Prop := fnExactXOpenUptoRow.holds Tryd.pinned (OpenSpec.upto fnExactXOpenSpec)

/-- 'laws.FnSealing', WHERE WHAT IT READS IS OF BULK AT MOST 1048576: true; the input reads as it did. -/
def fnSealingUptoRow : OpenClaim := { program := "ytgnbmjhljlbkhaadoor", sum := "fd8c57302f8fc952f898a7b93370028a849c03927b15b0de9a3cd30bf77d1dd0", func := "loop.example/s02974/laws.FnSealing", spec := "fnSealing", inPlace := ["math/bits.Add64"], named := ["loop.example/s02974/impl.chaWords"], apart := false, laid := [("loop.example/s02974/impl.chaWords", laid_loop_example_s02974_impl_chaWords)], narrowed := true }
def FnSealingUptoSaid : Prop := fnSealingUptoRow.holds Tryd.pinned (OpenSpec.upto fnSealingSpec)

end Rows
end Go.Proofs.YtgnbmjhljlbkhaaDoor
