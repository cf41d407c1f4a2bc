/- errors.Is by its contracts: the sentinel itself, and nil, against the sentinel.
   Conditions: none. The texts follow the kit's worked example of errors.Is. -/
import Derived.Test.YthflpgckojnbmaaDoorBase
import Derived.LaidEql
import Derived.Stop.Asserts
import Derived.RowKitTokens
open Go.Ab Go.RowKit Go.Extern.Stop Go.Stop Go.Extern
namespace Go.Proofs.YthflpgckojnbmaaDoor

def cmpRow (t : TypeId) : Sem Value := do
  Rtype.noPackHeld "Comparable" t
  pure (.bool (← typeInfo t).comparable)
theorem isTypeOf (v : Value) (w : World) : (Extern.ReflectliteType.typeOf #[.iface 93 v]).run Tryd.prog w = .ok (.iface 83 (.agg #[.pointer (some ⟨1, 93, none⟩)])) w := by kernel_rfl
theorem isComparable (w : World) : ((Extern.ReflectliteType.method cmpRow) #[.agg #[.pointer (some ⟨1, 93, none⟩)]]).run Tryd.prog w = .ok (.bool true) w := by kernel_rfl
theorem isMethodComparable (n : Nat) (v : Value) (w : World) : (Go.method (n + 1) 83 v "Comparable").run Tryd.prog w = .ok (59, v) w := by kernel_rfl
theorem isComp : (Tryd.prog.info? 93).map (·.comparable) = some true := by kernel_rfl
theorem isSize : (Tryd.prog.info? 118).map (·.size) = some 1 := by kernel_rfl

theorem is_same (a : Addr) (w : World) :
    Calls Tryd.prog 24 #[.iface 93 (.pointer (some a)), .iface 93 (.pointer (some a))] w fun e w' => e = .returned (.bool true) ∧ w' = w := by
  obtain ⟨i, hi, hcmp⟩ := Option.map_eq_some_iff.1 isComp
  obtain ⟨j, hj, hjs⟩ := Option.map_eq_some_iff.1 isSize
  have h36 := @run_callFunc_extern Tryd.prog 36 _ Extern.ReflectliteType.typeOf Tryd.func36 (by kernel_rfl) (by kernel_rfl) (by kernel_rfl) (by kernel_rfl)
  have h59 := @run_callFunc_extern Tryd.prog 59 _ (Extern.ReflectliteType.method cmpRow) Tryd.func59 (by kernel_rfl) (by kernel_rfl) (by kernel_rfl) (by kernel_rfl)
  have tT := isTypeOf
  have cT := isComparable
  have mR := isMethodComparable
  have heq := run_eql_iface_ptr_same (P := Tryd.prog) w a Tryd.underlying57 Tryd.underlying93 hi hcmp hj
  go_enter Tryd.func24, Tryd.ntmps24
  go_wp2
  refine wp_loop_rounds 1 ?_
  rw [rounds_succ]
  go_wp2
  go_ret
  exact ⟨rfl, rfl⟩

theorem is_nil (b : Addr) (w : World) :
    Calls Tryd.prog 24 #[.nilIface, .iface 93 (.pointer (some b))] w fun e w' => e = .returned (.bool false) ∧ w' = w := by
  have hn := run_eql_iface_nil_left (P := Tryd.prog) w 93 (.pointer (some b)) Tryd.underlying57
  go_enter Tryd.func24, Tryd.ntmps24
  go_wp2
  go_ret
  exact ⟨rfl, rfl⟩

end Go.Proofs.YthflpgckojnbmaaDoor
