/- What the laid variable errShape gives: an error of errors.New's make, at a place that is no object of ours; errors.Is against it.
   Conditions: the variable is as the program's text lays it. -/
import Derived.Test.YthflpgckojnbmaaDoorIs
import Derived.Stop.LaidErr
open Go.Ab Go.ChangeShapes Go.RowKit
set_option linter.unusedVariables false
set_option linter.unusedSimpArgs false
namespace Go.Proofs.YthflpgckojnbmaaDoor

def laidErr : List (String × DataW Unit) := [("loop.example/s02974/impl.errShape", Rows.laid_loop_example_s02974_impl_errShape)]

theorem gErr : Tryd.prog.globalNamed "loop.example/s02974/impl.errShape" = some 0 := by kernel_rfl
theorem tErr : (Tryd.prog.globals[0]?).map (·.type) = some 57 := by kernel_rfl
theorem cells118 : Tryd.prog.cellsOf 118 = 1 := by kernel_rfl
theorem row93 (u : TypeId) (h : Tryd.prog.typeName? 3 u = some "*errors.errorString") : u = 93 :=
  typeName_ptr_named (nm := "errors.errorString") (by kernel_rfl) (by kernel_rfl) (by decide) u h

/-- The variable errShape. -/
def tblErr (ab ao : Nat) (b off : Nat) : Option Value := match b, off with
  | 0, 0 => some (.iface 93 (.pointer (some ⟨ab, ao, none⟩)))
  | _, _ => none

theorem ro_err {W : World} (h : laidMetH Tryd.prog laidErr W) : ∃ ab ao, RoOk (tblErr ab ao) W := by
  rw [MakeChecks.laidMetH_plain _ _ _ (by kernel_rfl)] at h
  obtain ⟨a, s, hv, hc, _, _⟩ := laid_sentinel h gErr tErr Tryd.underlying57 row93 Tryd.underlying93 Tryd.underlying118 rfl rfl Tryd.underlying9 cells118 (by kernel_rfl)
  have hg : W.cell? ⟨0, 0, none⟩ = some (.iface 93 (.pointer (some a))) := by simpa using World.var?_cell gErr hv 0
  obtain ⟨ab, ao, sp⟩ := a
  cases sp with
  | some z => exfalso; unfold World.cell? at hc; split at hc <;> simp at hc
  | none =>
    refine ⟨ab, ao, fun b off v hv => ?_⟩
    unfold tblErr at hv
    split at hv
    · cases hv; exact ⟨hg, rfl, rfl⟩
    · cases hv

/-- The door's own heap meets the condition. -/
theorem door_met (os : Os) (args : Array Value) : laidMetH Tryd.prog laidErr ((World.doorLaid Tryd.prog 400 os).forCall (fun _ _ => 0) ⟨#[], args, []⟩).memory :=
  laidMetH_of_parts3 (fuel := 8) (laidMet_of_run' 8 (by kernel_rfl) (by kernel_rfl)) (by kernel_rfl) (by kernel_rfl)

/-- errors.Is: of two like pointers, and of nil. -/
noncomputable def isSum : Sum where
  f := 24
  ro := true
  S := fun args os => match args with
    | [.iface _ _, .iface _ _] => some (.bool true, os, [])
    | [.nilIface, .iface _ _] => some (.bool false, os, [])
    | _ => none
  C := fun args _ => match args with
    | [.iface t u, .iface t' u'] => [(@decide (t = 93 ∧ t' = 93 ∧ ∃ ab ao, u = .pointer (some ⟨ab, ao, none⟩) ∧ u' = .pointer (some ⟨ab, ao, none⟩)) (Classical.propDecidable _), true)]
    | [.nilIface, .iface t u] => [(@decide (t = 93 ∧ ∃ ab ao, u = .pointer (some ⟨ab, ao, none⟩)) (Classical.propDecidable _), true)]
    | _ => []

theorem two_args {m : Pl} {h : AHeap} {u v : Value} {args' : Array Value} (hu : ground u = true) (hv : ground v = true) (hargs : LRel m h [u, v] args'.toList) : args' = #[u, v] := by
  obtain ⟨x, hx, hxr⟩ := hargs.get (i := 0) rfl
  obtain ⟨y, hy, hyr⟩ := hargs.get (i := 1) rfl
  obtain ⟨x', y', hxy⟩ := len2 (l := args'.toList) hargs.1.symm
  rw [hxy] at hx hy
  obtain rfl : x' = x := Option.some.inj hx
  obtain rfl : y' = y := Option.some.inj hy
  obtain rfl := hxr.eq hu
  obtain rfl := hyr.eq hv
  cases args'
  simp only at hxy
  rw [hxy]

theorem is_same_acalls (M : Mem) (os : List AObj) (ab ao : Nat) : ACalls Tryd.prog M 24 [.iface 93 (.pointer (some ⟨ab, ao, none⟩)), .iface 93 (.pointer (some ⟨ab, ao, none⟩))] os (.bool true) os [] := by
  refine ⟨rfl, fun m w args' r hargs => ?_⟩
  obtain rfl := two_args rfl rfl hargs
  rw [List.append_nil]
  refine (is_same ⟨ab, ao, none⟩ w).mono ?_
  rintro e w' ⟨rfl, rfl⟩
  exact ⟨_, m, rfl, Tr.refl r, .same rfl⟩

theorem is_nil_acalls (M : Mem) (os : List AObj) (ab ao : Nat) : ACalls Tryd.prog M 24 [.nilIface, .iface 93 (.pointer (some ⟨ab, ao, none⟩))] os (.bool false) os [] := by
  refine ⟨rfl, fun m w args' r hargs => ?_⟩
  obtain rfl := two_args rfl rfl hargs
  rw [List.append_nil]
  refine (is_nil ⟨ab, ao, none⟩ w).mono ?_
  rintro e w' ⟨rfl, rfl⟩
  exact ⟨_, m, rfl, Tr.refl r, .same rfl⟩

theorem isSum_sound (M : Mem) : isSum.SoundC Tryd.prog M := by
  refine sumC_sound Tryd.func24 (by kernel_rfl) (by kernel_rfl) fun args os v os' ns hs hp => ?_
  simp only [isSum] at hs hp
  split at hs
  · cases hs
    obtain ⟨rfl, rfl, ab, ao, rfl, rfl⟩ := @of_decide_eq_true _ (Classical.propDecidable _) (hp _ (List.mem_singleton.2 rfl))
    exact ⟨is_same_acalls M os ab ao, fun _ => rfl⟩
  · cases hs
    obtain ⟨rfl, ab, ao, rfl⟩ := @of_decide_eq_true _ (Classical.propDecidable _) (hp _ (List.mem_singleton.2 rfl))
    exact ⟨is_nil_acalls M os ab ao, fun _ => rfl⟩
  · cases hs

theorem isP_same {ab ao : Nat} : Held (isSum.C [.iface 93 (.pointer (some ⟨ab, ao, none⟩)), .iface 93 (.pointer (some ⟨ab, ao, none⟩))] []) :=
  held_one (@decide_eq_true _ (Classical.propDecidable _) ⟨rfl, rfl, ab, ao, rfl, rfl⟩)
theorem isP_nil {ab ao : Nat} : Held (isSum.C [.nilIface, .iface 93 (.pointer (some ⟨ab, ao, none⟩))] []) :=
  held_one (@decide_eq_true _ (Classical.propDecidable _) ⟨rfl, ab, ao, rfl⟩)

end Go.Proofs.YthflpgckojnbmaaDoor
