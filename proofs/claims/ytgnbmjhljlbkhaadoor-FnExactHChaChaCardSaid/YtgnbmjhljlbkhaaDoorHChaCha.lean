/- The law FnExactHChaCha returns true of every key and nonce, which read behind the call as before.
   Conditions: the variable chaWords is as the program's text lays it; the card ties it to that text. -/
import Derived.Test.YtgnbmjhljlbkhaaDoorHCha
import Derived.Test.YtgnbmjhljlbkhaaDoorTie
import Derived.Test.YtgnbmjhljlbkhaaDoorCards
open Go.Ab Go.Num
set_option linter.unusedVariables false
set_option linter.unusedSimpArgs false
namespace Go.Proofs.YtgnbmjhljlbkhaaDoor

theorem k32h : flatK Tryd.prog 22 = some (List.replicate 32 (.int .u8)) := by kernel_rfl
theorem k16h : flatK Tryd.prog 31 = some (List.replicate 16 (.int .u8)) := by kernel_rfl

noncomputable def L4 (W : World) : List Sum := [hchaSum 15, hchaSum 17, I11 (memL tblCha W), I16 (memL tblCha W), eqSum 18 32]
theorem L4_sound (W : World) : ∀ s ∈ L4 W, s.SoundC Tryd.prog (memL tblCha W) := consC (hcha15 _) (consC (hcha17 W) (consC (I11_s _).c (consC (I16_s _).c (consC (eq32 _).c nilC))))

set_option maxRecDepth 100000 in
theorem r4 (W : World) (k n : Nat → Int) : evFC Tryd.prog (memL tblCha W) (L4 W) [20] 1000 Tryd.f4 [.agg ⟨cellsI .u8 32 k⟩, .agg ⟨cellsI .u8 16 n⟩] [] [false] =
   some ((.bool true, [], []), [(rngB (cellsI .u8 32 k), true), (rngB (cellsI .u8 16 n), true), (rngB (cellsI .u8 32 k), true), (rngB (cellsI .u8 16 n), true), (!eqB (keyF (wd (cellsI .u8 32 k)) (wd (cellsI .u8 16 n))) (keyF (wd (cellsI .u8 32 k)) (wd (cellsI .u8 16 n))), false)]) := by kernel_rfl

theorem eqB_key (k n : Nat → Int) : eqB (keyF k n) (keyF k n) = true := by
  have : ∃ l : List Int, keyF k n = l.map (.int .u8) := ⟨(List.range 32).map fun j => byteL (j % 4) (rF (wd (hStart word k n)) (if j < 16 then j / 4 else 8 + j / 4)), by simp [keyF, keyW]⟩
  obtain ⟨l, hl⟩ := this
  rw [hl, eqB_self]

theorem run4 (W : World) (base : Nat) (hL : laidMetH Tryd.prog laidCha W) (v0 : Value) (h0 : Value.okWide Tryd.prog W .any base 22 v0) {H : Type} {enc : TypeId × Value → H} {d : DataW H} {p : List MemPlace} (_ : DataW.Trod enc Tryd.prog W 0 (fun _ => true) true 22 v0 d p)
    (v1 : Value) (h1 : Value.okWide Tryd.prog W .any base 31 v1) {d1 : DataW H} {p1 : List MemPlace} (_ : DataW.Trod enc Tryd.prog W 0 (fun _ => true) true 31 v1 d1 p1) :
    groundL [v0, v1] = true ∧ ∃ M ns, RoOk M W ∧ ACalls Tryd.prog M 4 [v0, v1] [] (.bool true) [] ns := by
  obtain ⟨cs, rfl, hc⟩ := flat_ok k32h h0
  obtain ⟨cs2, rfl, hc2⟩ := flat_ok k16h h1
  refine ⟨by simp only [groundL, ground, groundA, hc.ground, hc2.ground, Bool.and_true], memL tblCha W, [], ro_memL (ro_cha hL), ?_⟩
  obtain ⟨x, rfl, hx⟩ := cvs_cells (by exact ⟨by decide, by decide⟩) hc
  obtain ⟨y, rfl, hy⟩ := cvs_cells (by exact ⟨by decide, by decide⟩) hc2
  exact acalls_of_evFC (L4_sound W) mix Tryd.func4 (r4 W x y) (held_cons (rngB_cellsI hx) (held_cons (rngB_cellsI hy) (held_cons (rngB_cellsI hx) (held_cons (rngB_cellsI hy) (held_one (by rw [eqB_key]; rfl))))))

set_option maxRecDepth 100000 in
theorem FnExactHChaCha_lifted (os : Os) (started : os.Started) (H : Type) (enc : TypeId × Value → H) :
    ReturnsInHanded {} Tryd.checked os 4 .any (fun w args => (Rows.fnExactHChaChaSpec.pre enc Tryd.prog Tryd.f4 [] false w args ∧ laidMetH Tryd.prog laidCha w) ∧ sizedMet enc Tryd.prog Tryd.f4 (OpenSpec.ofChange Rows.fnExactHChaChaSpec) false w args)
      (Rows.fnExactHChaChaSpec.post enc Tryd.prog Tryd.f4 false true false false) :=
  liftedL own (by kernel_rfl) Tryd.func4 (tb := 4) (by kernel_rfl) Tryd.underlying4 (by kernel_rfl) (by kernel_rfl) (laid := laidCha) (fun H ds gs h h2 => by
      obtain ⟨_, _, rfl⟩ := len2 (l := ds) (h.trans (by kernel_rfl)); obtain ⟨_, rfl⟩ := len1 (l := gs) (h2.trans (by kernel_rfl)); rfl)
    (fun W base H enc args ds ps hL h hv => by
      rw [show Tryd.f4.params = _ from Tryd.params4] at h hv
      obtain ⟨v0, v1, d0, d1, p0, p1, rfl, rfl, rfl, h0, h1⟩ := Go.ChangeShapes.trodAll_two h
      exact run4 W base hL v0 (hv 0 _ v0 rfl rfl) h0 v1 (hv 1 _ v1 rfl rfl) h1) os started enc
    (ChangeSpec.witness_shaped (enc := enc) (C := Tryd.checked) (os := os) (X := fun w _ => laidMetH Tryd.prog laidCha w) false (World.doorLaid Tryd.prog 400 os) #[(.agg (Array.replicate 32 (.int .u8 0))), (.agg (Array.replicate 16 (.int .u8 0)))] 64 rfl (World.shaped_of_RefB (by kernel_rfl) (by kernel_rfl)) (by kernel_rfl) (by kernel_rfl) (by kernel_rfl) (door_met os _))

set_option maxRecDepth 100000 in
theorem FnExactHChaCha_row : Rows.FnExactHChaChaSaid :=
  OpenClaim.holds_of_wide 4 Tryd.f4 rfl rfl rfl rfl rfl rfl rfl ⟨rfl, rfl, rfl, rfl, rfl⟩ rfl rfl rfl rfl rfl (by kernel_rfl) Tryd.func4 (by kernel_rfl)
    (of_decide_eq_true (by kernel_rfl)) (by unfold Func.isWrapper; first | (rw [if_pos (by decide +kernel)]; kernel_rfl) | (rw [if_neg (by decide +kernel)]; exact ⟨rfl, rfl⟩))
    (fun os started H enc _ => FnExactHChaCha_lifted os started H enc)

set_option maxRecDepth 100000 in
/-- The statement: the row with its variables tied to the program's text. -/
theorem FnExactHChaCha_holds : Rows.FnExactHChaChaCardSaid :=
  Claim7.holds_tied_plain_at .later [] [.widerDeep] true (true, "4e403907b894438770c9b4d8f2302bf91f824e52f63195d1585c3c77d878912d") false
    FnExactHChaCha_row (fun _ h => by cases h) (by kernel_rfl) (fun _ h => by cases h) fnExactHChaCha_row_tie rfl ⟨rfl, rfl⟩ (by kernel_rfl) rfl
    (fun f fn hf hfn => by
      obtain rfl : f = 4 := Option.some.inj ((show Tryd.prog.funcNamed "loop.example/s02974/laws.FnExactHChaCha" = some 4 by kernel_rfl).symm.trans hf) |>.symm
      obtain rfl : fn = Tryd.f4 := (Option.some.inj (Tryd.func4.symm.trans hfn)).symm
      exact ⟨by kernel_rfl, fun j t ht => by
        rw [Tryd.params4] at ht
        have hm : t ∈ [22, 31] := by simpa using Array.mem_of_getElem? ht
        have hall : ([22, 31].all fun u => !Tryd.prog.wantsStandIn u) = true := by kernel_rfl
        exact (show Tryd.prog.wantsStandIn t = false by simpa using List.all_eq_true.1 hall t hm)⟩)
    (by kernel_rfl)

end Go.Proofs.YtgnbmjhljlbkhaaDoor
