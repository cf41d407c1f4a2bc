/- The law FnExactChaBlock returns true of every key, counter and nonce, which read behind the call as before.
   Conditions: the variable chaWords is as the program's text lays it; the card ties it to that text. -/
import Derived.Test.YtgnbmjhljlbkhaaDoorHCha
import Derived.Test.YtgnbmjhljlbkhaaDoorTie
import Derived.Test.YtgnbmjhljlbkhaaDoorCards
open Go.Ab Go.Num
set_option linter.unusedVariables false
set_option linter.unusedSimpArgs false
namespace Go.Proofs.YtgnbmjhljlbkhaaDoor

theorem k32 : flatK Tryd.prog 22 = some (List.replicate 32 (.int .u8)) := by kernel_rfl
theorem k12 : flatK Tryd.prog 24 = some (List.replicate 12 (.int .u8)) := by kernel_rfl

noncomputable def L3 (W : World) : List Sum := [chaSum 10, chaSum 13, I11 (memL tblCha W), I12 (memL tblCha W), eqSum 14 64]
theorem L3_sound (W : World) : ∀ s ∈ L3 W, s.SoundC Tryd.prog (memL tblCha W) := consC (cha10 _) (consC (cha13 W) (consC (I11_s _).c (consC (I12_s _).c (consC (eq64 _).c nilC))))

set_option maxRecDepth 100000 in
theorem r3 (W : World) (k : Nat → Int) (c : Int) (n : Nat → Int) : evFC Tryd.prog (memL tblCha W) (L3 W) [24] 1000 Tryd.f3 [.agg ⟨cellsI .u8 32 k⟩, .int .u32 c, .agg ⟨cellsI .u8 12 n⟩] [] [false] =
   some ((.bool true, [], []), [(rngB (cellsI .u8 32 k), true), (rngB (cellsI .u8 12 n), true), (rngB (cellsI .u8 32 k), true), (rngB (cellsI .u8 12 n), true), (!eqB (blockF (wd (cellsI .u8 32 k)) c (wd (cellsI .u8 12 n))) (blockF (wd (cellsI .u8 32 k)) c (wd (cellsI .u8 12 n))), false)]) := by kernel_rfl

theorem eqB_block (k : Nat → Int) (c : Int) (n : Nat → Int) : eqB (blockF k c n) (blockF k c n) = true := by
  have : ∃ l : List Int, blockF k c n = l.map (.int .u8) := ⟨(List.range 64).map fun j => byteL (j % 4) (add32 (rF (wd (bStart word k c n)) (j / 4)) (wd (bStart word k c n) (j / 4))), by simp [blockF, blockW]⟩
  obtain ⟨l, hl⟩ := this
  rw [hl, eqB_self]

theorem run3 (W : World) (base : Nat) (hL : laidMetH Tryd.prog laidCha W) (v0 : Value) (h0 : Value.okWide Tryd.prog W .any base 22 v0) {H : Type} {enc : TypeId × Value → H} {d : DataW H} {p : List MemPlace} (_ : DataW.Trod enc Tryd.prog W 0 (fun _ => true) true 22 v0 d p)
    (v1 : Value) (h1 : Value.okWide Tryd.prog W .any base 23 v1) {d1 : DataW H} {p1 : List MemPlace} (_ : DataW.Trod enc Tryd.prog W 0 (fun _ => true) true 23 v1 d1 p1)
    (v2 : Value) (h2 : Value.okWide Tryd.prog W .any base 24 v2) {d2 : DataW H} {p2 : List MemPlace} (_ : DataW.Trod enc Tryd.prog W 0 (fun _ => true) true 24 v2 d2 p2) :
    groundL [v0, v1, v2] = true ∧ ∃ M ns, RoOk M W ∧ ACalls Tryd.prog M 3 [v0, v1, v2] [] (.bool true) [] ns := by
  obtain ⟨cs, rfl, hc⟩ := flat_ok k32 h0
  obtain ⟨c, rfl, _⟩ := value_ok (k := .int .u32) (by kernel_rfl) h1
  obtain ⟨cs2, rfl, hc2⟩ := flat_ok k12 h2
  refine ⟨by simp only [groundL, ground, groundA, hc.ground, hc2.ground, Bool.and_true], memL tblCha W, [], ro_memL (ro_cha hL), ?_⟩
  obtain ⟨x, rfl, hx⟩ := cvs_cells (by exact ⟨by decide, by decide⟩) hc
  obtain ⟨y, rfl, hy⟩ := cvs_cells (by exact ⟨by decide, by decide⟩) hc2
  exact acalls_of_evFC (L3_sound W) mix Tryd.func3 (r3 W x c y) (held_cons (rngB_cellsI hx) (held_cons (rngB_cellsI hy) (held_cons (rngB_cellsI hx) (held_cons (rngB_cellsI hy) (held_one (by rw [eqB_block]; rfl))))))

set_option maxRecDepth 100000 in
theorem FnExactChaBlock_lifted (os : Os) (started : os.Started) (H : Type) (enc : TypeId × Value → H) :
    ReturnsInHanded {} Tryd.checked os 3 .any (fun w args => (Rows.fnExactChaBlockSpec.pre enc Tryd.prog Tryd.f3 [] false w args ∧ laidMetH Tryd.prog laidCha w) ∧ sizedMet enc Tryd.prog Tryd.f3 (OpenSpec.ofChange Rows.fnExactChaBlockSpec) false w args)
      (Rows.fnExactChaBlockSpec.post enc Tryd.prog Tryd.f3 false true false false) :=
  liftedL own (by kernel_rfl) Tryd.func3 (tb := 4) (by kernel_rfl) Tryd.underlying4 (by kernel_rfl) (by kernel_rfl) (laid := laidCha) (fun H ds gs h h2 => by
      obtain ⟨_, _, _, rfl⟩ := len3 (l := ds) (h.trans (by kernel_rfl)); obtain ⟨_, rfl⟩ := len1 (l := gs) (h2.trans (by kernel_rfl)); rfl)
    (fun W base H enc args ds ps hL h hv => by
      rw [show Tryd.f3.params = _ from Tryd.params3] at h hv
      obtain ⟨v0, v1, v2, d0, d1, d2, p0, p1, p2, rfl, rfl, rfl, h0, h1, h2⟩ := Go.ChangeShapes.trodAll_three h
      exact run3 W base hL v0 (hv 0 _ v0 rfl rfl) h0 v1 (hv 1 _ v1 rfl rfl) h1 v2 (hv 2 _ v2 rfl rfl) h2) os started enc
    (ChangeSpec.witness_shaped (enc := enc) (C := Tryd.checked) (os := os) (X := fun w _ => laidMetH Tryd.prog laidCha w) false (World.doorLaid Tryd.prog 400 os) #[(.agg (Array.replicate 32 (.int .u8 0))), (.int .u32 0), (.agg (Array.replicate 12 (.int .u8 0)))] 64 rfl (World.shaped_of_RefB (by kernel_rfl) (by kernel_rfl)) (by kernel_rfl) (by kernel_rfl) (by kernel_rfl) (door_met os _))

set_option maxRecDepth 100000 in
theorem FnExactChaBlock_row : Rows.FnExactChaBlockSaid :=
  OpenClaim.holds_of_wide 3 Tryd.f3 rfl rfl rfl rfl rfl rfl rfl ⟨rfl, rfl, rfl, rfl, rfl⟩ rfl rfl rfl rfl rfl (by kernel_rfl) Tryd.func3 (by kernel_rfl)
    (of_decide_eq_true (by kernel_rfl)) (by unfold Func.isWrapper; first | (rw [if_pos (by decide +kernel)]; kernel_rfl) | (rw [if_neg (by decide +kernel)]; exact ⟨rfl, rfl⟩))
    (fun os started H enc _ => FnExactChaBlock_lifted os started H enc)

set_option maxRecDepth 100000 in
/-- The statement: the row with its variables tied to the program's text. -/
theorem FnExactChaBlock_holds : Rows.FnExactChaBlockCardSaid :=
  Claim7.holds_tied_plain_at .later [] [.widerDeep] true (true, "4e403907b894438770c9b4d8f2302bf91f824e52f63195d1585c3c77d878912d") false
    FnExactChaBlock_row (fun _ h => by cases h) (by kernel_rfl) (fun _ h => by cases h) fnExactChaBlock_row_tie rfl ⟨rfl, rfl⟩ (by kernel_rfl) rfl
    (fun f fn hf hfn => by
      obtain rfl : f = 3 := Option.some.inj ((show Tryd.prog.funcNamed "loop.example/s02974/laws.FnExactChaBlock" = some 3 by kernel_rfl).symm.trans hf) |>.symm
      obtain rfl : fn = Tryd.f3 := (Option.some.inj (Tryd.func3.symm.trans hfn)).symm
      exact ⟨by kernel_rfl, fun j t ht => by
        rw [Tryd.params3] at ht
        have hm : t ∈ [22, 23, 24] := by simpa using Array.mem_of_getElem? ht
        have hall : ([22, 23, 24].all fun u => !Tryd.prog.wantsStandIn u) = true := by kernel_rfl
        exact (show Tryd.prog.wantsStandIn t = false by simpa using List.all_eq_true.1 hall t hm)⟩)
    (by kernel_rfl)

end Go.Proofs.YtgnbmjhljlbkhaaDoor
