/- What the laid variable chaWords gives: its four cells.
   Conditions: the variable is as the program's text lays it. -/
import Derived.Test.YtgnbmjhljlbkhaaDoorBlock
open Go.Ab Go.Num Go.ChangeShapes Go.RowKit
set_option linter.unusedVariables false
set_option linter.unusedSimpArgs false
namespace Go.Proofs.YtgnbmjhljlbkhaaDoor

def laidCha : List (String × DataW Unit) := [("loop.example/s02974/impl.chaWords", Rows.laid_loop_example_s02974_impl_chaWords)]

theorem gCha : Tryd.prog.globalNamed "loop.example/s02974/impl.chaWords" = some 0 := by kernel_rfl
theorem tCha : (Tryd.prog.globals[0]?).map (·.type) = some 66 := by kernel_rfl
theorem uCha : Tryd.prog.underlying 66 = some (.array 4 23) := by kernel_rfl
theorem u23 : Tryd.prog.underlying 23 = some (.int .u32) := by kernel_rfl

theorem laid_cells {W : World} (h : laidMetH Tryd.prog laidCha W) : W.cell? ⟨0, 0, none⟩ = some (.int .u32 1634760805) ∧ W.cell? ⟨0, 1, none⟩ = some (.int .u32 857760878) ∧
    W.cell? ⟨0, 2, none⟩ = some (.int .u32 2036477234) ∧ W.cell? ⟨0, 3, none⟩ = some (.int .u32 1797285236) := by
  rw [MakeChecks.laidMetH_plain _ _ _ (by kernel_rfl)] at h
  obtain ⟨ps, ⟨g0, t0, cs0, f0, p0, q0, hg0, ht0, hv0, hd0, _, _⟩, _, _⟩ := h
  obtain rfl := Option.some.inj (gCha.symm.trans hg0)
  obtain rfl := Option.some.inj (tCha.symm.trans ht0)
  obtain ⟨xs, m1, rfl, hx1, hlen, hn3, hel⟩ := DataW.trod_array uCha hd0
  have c3 : Tryd.prog.cellsOf 23 = 1 := by kernel_rfl
  have c24 : Tryd.prog.cellsOf 66 = 4 := by kernel_rfl
  simp only [Prod.mk.injEq, DataW.agg.injEq, Rows.laid_loop_example_s02974_impl_chaWords] at hx1
  obtain ⟨l1⟩ := cs0
  have get : ∀ (i : Nat) (k : Int) x, i < 4 → xs[i]? = some x → x.1 = .lit (.int .u32 k) → W.cell? ⟨0, i, none⟩ = some (.int .u32 k) := fun i k x hi hx hk => by
    obtain ⟨k', e1, e2, _⟩ := DataW.trod_int u23 (show DataW.trod _ Tryd.prog W 0 _ false m1 23 _ = some x from by
      have := hel i (by omega)
      rw [hx] at this
      exact this)
    rw [e2] at hk
    simp only [DataW.lit.injEq, Lit.int.injEq, true_and] at hk
    subst hk
    rw [c3] at e1
    have h2 := congrArg (fun l : List Value => l[0]?) e1
    simp only [List.getElem?_take, List.getElem?_drop, List.getElem?_cons_zero, Nat.mul_one, Nat.add_zero, Nat.lt_add_one, if_true] at h2
    have h3 := World.var?_cell hg0 hv0 i
    simp only [List.getElem?_toArray] at h3
    rw [h3]
    simpa using h2
  match xs, hn3, hx1, get with
  | [x0, x1, x2, x3], _, hx1, get =>
    simp only [List.map_cons, List.map_nil, List.cons.injEq] at hx1
    exact ⟨get 0 _ x0 (by omega) rfl hx1.1.1.symm, get 1 _ x1 (by omega) rfl hx1.1.2.1.symm, get 2 _ x2 (by omega) rfl hx1.1.2.2.1.symm, get 3 _ x3 (by omega) rfl hx1.1.2.2.2.1.symm⟩

theorem ro_cha {W : World} (h : laidMetH Tryd.prog laidCha W) : RoOk tblCha W := fun b off v hv => by
  obtain ⟨h0, h1, h2, h3⟩ := laid_cells h
  unfold tblCha at hv
  cases hb : Nat.beq b 0 with
  | false => rw [hb] at hv; cases hv
  | true =>
    rw [hb] at hv
    have := Nat.eq_of_beq_eq_true hb
    subst this
    simp only [cond_true] at hv
    split at hv
    · cases hv; exact ⟨h0, rfl, rfl⟩
    · cases hv; exact ⟨h1, rfl, rfl⟩
    · cases hv; exact ⟨h2, rfl, rfl⟩
    · cases hv; exact ⟨h3, rfl, rfl⟩
    · cases hv

/-- The door's own heap meets the condition. -/
theorem door_met (os : Os) (args : Array Value) : laidMetH Tryd.prog laidCha ((World.doorLaid Tryd.prog 400 os).forCall (fun _ _ => 0) ⟨#[], args, []⟩).memory :=
  laidMetH_of_parts3 (fuel := 8) (laidMet_of_run' 8 (by kernel_rfl) (by kernel_rfl)) (by kernel_rfl) (by kernel_rfl)

end Go.Proofs.YtgnbmjhljlbkhaaDoor
