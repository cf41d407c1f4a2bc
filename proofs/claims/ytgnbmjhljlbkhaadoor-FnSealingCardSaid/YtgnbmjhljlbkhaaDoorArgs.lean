/- Arguments of the laws of this seat: slices of bytes.
   Conditions: none. -/
import Derived.Test.YtgnbmjhljlbkhaaDoorLaid
import Derived.Test.YtgnbmjhljlbkhaaDoorSeal
open Go.Ab Go.Num
set_option linter.unusedVariables false
set_option linter.unusedSimpArgs false
namespace Go.Proofs.YtgnbmjhljlbkhaaDoor

theorem cnt64_eq {k : Int} (hk : 0 ≤ k) : ∀ {i : Nat}, k + i ≤ 9223372036854775807 → cnt64 k i = k + i := by
  intro i
  induction i with
  | zero => intro _; simp [cnt64]
  | succ i ih =>
    intro h
    rw [cnt64, ih (by omega), wrap_i64 (by omega) (by omega)]
    omega

/-- Its bytes can be read, and are bytes. -/
def RoS (M : Mem) (b off n : Nat) : Prop := ∀ i, i < n → roB .u8 M b (off + i) = true ∧ IntKind.u8.has (roN M b off i)

theorem roS_all {M : Mem} {b off n : Nat} (h : RoS M b off n) (hn : n ≤ 281474976710656) : roAll M b off n = true := roAll_iff.2 ⟨hn, fun i hi => (h i hi).1⟩

theorem arg36 {W : World} {base : Nat} (hL : laidMetH Tryd.prog laidCha W) {v : Value} (h0 : Value.okWide Tryd.prog W .any base 36 v) {H : Type} {enc : TypeId × Value → H} {d : DataW H} {p : List MemPlace} (hd : DataW.Trod enc Tryd.prog W 0 (fun _ => true) true 36 v d p) :
    v = .slice none 0 0 ∨ ∃ b off n c, v = .slice (some ⟨b, off, none⟩) n c ∧ RoS (memL tblCha W) b off n := by
  rcases slice_arg (e := 5) Tryd.underlying36 Tryd.underlying5 (by kernel_rfl) h0 hd with rfl | ⟨b, off, n, c, x, rfl, hc, _, hx⟩
  · exact .inl rfl
  · refine .inr ⟨b, off, n, c, rfl, fun i hi => ?_⟩
    have h1 := hx.2 i hi
    have h2 := memL_memOf (ro_cha hL) h1
    unfold roB roN
    rw [h2]
    exact ⟨by simp [isI], hx.1 i⟩

theorem eqP_bytes {n : Nat} {x : Nat → Int} (hn : n ≤ 4611686018427387904) : (sliceB ⟨cellsI .u8 n x, true, 1, true⟩ n 0 n = true) ∧ (!(Nat.beq n n && eqB (cut ⟨cellsI .u8 n x, true, 1, true⟩ 0 n) (cut ⟨cellsI .u8 n x, true, 1, true⟩ 0 n))) = false := by
  refine ⟨sliceB_cells (Nat.le_refl n) hn, ?_⟩
  rw [cutS_cells (Nat.le_refl n), Num.eqB_cells, Nat.beq_refl]
  rfl

end Go.Proofs.YtgnbmjhljlbkhaaDoor
