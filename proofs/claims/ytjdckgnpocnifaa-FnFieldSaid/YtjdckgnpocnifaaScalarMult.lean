/- The law FnExactScalarMult returns true of every scalar, point and meter, which read behind the call as before.
   Conditions: none. -/
import Derived.Test.YtjdckgnpocnifaaSpecScalar
open Go.Ab Go.Num
set_option linter.unusedVariables false
set_option linter.unusedSimpArgs false
namespace Go.Proofs.Ytjdckgnpocnifaa

noncomputable def L5 (M : Mem) : List Sum := [smSum 14, smSum 15, I9 M, eqSum 11 32]
theorem L5_sound (M : Mem) : ∀ s ∈ L5 M, s.SoundC Try.prog M := consC (sm14 M) (consC (sm15 M) (consC (I9_s M).c (consC (eq32 M).c nilC)))

def smB (a b : Nat → Int) : List Value := bytesN (smF (wd (cellsI .u8 32 a)) (uN (wd (cellsI .u8 32 b))) % pF)
set_option maxRecDepth 100000 in
theorem r5 (M : Mem) (a b : Nat → Int) (m : Int) : evFC Try.prog M (L5 M) [32, 36] 1000 Try.f5 [.agg ⟨cellsI .u8 32 a⟩, .agg ⟨cellsI .u8 32 b⟩, .int .i64 m] [] [false, false] =
   some ((.bool true, [], []), [(rngB (cellsI .u8 32 a) && rngB (cellsI .u8 32 b), true), (rngB (cellsI .u8 32 a) && rngB (cellsI .u8 32 b), true), (!eqB (smB a b) (smB a b), false), (IntKind.i64.wrap (m + 1) != IntKind.i64.wrap (m + 1), false)]) := by kernel_rfl

theorem run5 (W : World) (base : Nat) (v0 : Value) (h0 : Value.okWide Try.prog W .any base 22 v0) {H : Type} {enc : TypeId × Value → H} {d : DataW H} {p : List MemPlace} (_ : DataW.Trod enc Try.prog W 0 (fun _ => true) true 22 v0 d p)
    (v1 : Value) (h1 : Value.okWide Try.prog W .any base 22 v1) {d1 : DataW H} {p1 : List MemPlace} (_ : DataW.Trod enc Try.prog W 0 (fun _ => true) true 22 v1 d1 p1)
    (v2 : Value) (h2 : Value.okWide Try.prog W .any base 3 v2) {d2 : DataW H} {p2 : List MemPlace} (_ : DataW.Trod enc Try.prog W 0 (fun _ => true) true 3 v2 d2 p2) :
    groundL [v0, v1, v2] = true ∧ ∃ ns, ACalls Try.prog (memOf W) 5 [v0, v1, v2] [] (.bool true) [] ns := by
  obtain ⟨cs, rfl, hc⟩ := flat_ok k32 h0
  obtain ⟨cs1, rfl, hc1⟩ := flat_ok k32 h1
  obtain ⟨m, rfl, _⟩ := value_ok (k := .int .i64) (by kernel_rfl) h2
  refine ⟨by simp only [groundL, ground, groundA, hc.ground, hc1.ground, Bool.and_true], [], ?_⟩
  obtain ⟨x, rfl, hx⟩ := cvs_cells (by exact ⟨by decide, by decide⟩) hc
  obtain ⟨y, rfl, hy⟩ := cvs_cells (by exact ⟨by decide, by decide⟩) hc1
  have hxy : (rngB (cellsI .u8 32 x) && rngB (cellsI .u8 32 y)) = true := by rw [rngB_cellsI hx, rngB_cellsI hy]; rfl
  exact acalls_of_evFC (L5_sound _) mix Try.func5 (r5 _ x y m) (held_cons hxy (held_cons hxy (held_cons (by unfold smB; rw [eqB_bytes]; rfl) (held_one (by simp)))))

set_option maxRecDepth 100000 in
theorem FnExactScalarMult_lifted (os : Os) (started : os.Started) (H : Type) (enc : TypeId × Value → H) :
    ReturnsInHanded {} Try.checked os 5 .any (Rows.fnExactScalarMultSpec.pre6 enc Try.prog Try.f5 Rows.fnExactScalarMultRow.domain false) (Rows.fnExactScalarMultSpec.post enc Try.prog Try.f5 false true false false) :=
  lifted own (by kernel_rfl) Try.func5 (tb := 4) (by kernel_rfl) Try.underlying4 (by kernel_rfl) rfl (fun H ds h => by
      obtain ⟨_, _, _, rfl⟩ := len3 (l := ds) (h.trans (by kernel_rfl)); rfl)
    (fun W base H enc args ds ps h hv => by
      rw [show Try.f5.params = _ from Try.params5] at h hv
      obtain ⟨v0, v1, v2, d0, d1, d2, p0, p1, p2, rfl, rfl, rfl, h0, h1, h2⟩ := Go.ChangeShapes.trodAll_three h
      exact run5 W base v0 (hv 0 _ v0 rfl rfl) h0 v1 (hv 1 _ v1 rfl rfl) h1 v2 (hv 2 _ v2 rfl rfl) h2) os started enc
    (ChangeSpec.witness6 (enc := enc) (C := Try.checked) false ⟨#[], #[(.agg (Array.replicate 32 (.int .u8 0))), (.agg (Array.replicate 32 (.int .u8 0))), (.int .i64 0)], []⟩ 64 (by kernel_rfl) (by kernel_rfl) (by kernel_rfl) (by kernel_rfl))

set_option maxRecDepth 100000 in
/-- The statement. -/
theorem FnExactScalarMult_holds : Rows.FnExactScalarMultSaid :=
  OpenClaim.holds_of_wide 5 Try.f5 rfl rfl rfl rfl rfl rfl rfl ⟨rfl, rfl, rfl, rfl, rfl⟩ rfl rfl rfl rfl rfl (by kernel_rfl) Try.func5 (by kernel_rfl)
    (of_decide_eq_true (by kernel_rfl)) (by unfold Func.isWrapper; first | (rw [if_pos (by decide +kernel)]; kernel_rfl) | (rw [if_neg (by decide +kernel)]; exact ⟨rfl, rfl⟩))
    (fun os started H enc _ => FnExactScalarMult_lifted os started H enc)

end Go.Proofs.Ytjdckgnpocnifaa
