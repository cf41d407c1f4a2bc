/- The law FnExactTellReport returns true of every report, which reads behind the call as before.
   Conditions: the variables of the row are as the program's text lays them; the card ties them to that text. -/
import Derived.Test.YtfkdcpinajnbfaaDoorArg
import Derived.Stop.LaidErr
import Derived.Lib.LaidTab
import Derived.Test.YtfkdcpinajnbfaaDoorTie
import Derived.Test.YtfkdcpinajnbfaaDoorCards
open Go.Ab Go.Num Go.ChangeShapes Go.RowKit
set_option linter.unusedVariables false
set_option linter.unusedSimpArgs false
namespace Go.Proofs.YtfkdcpinajnbfaaDoor

def laidPow : List (String × DataW Unit) := [("math/bits.deBruijn32tab", Rows.laid_math_bits_deBruijn32tab), ("math/bits.deBruijn64tab", Rows.laid_math_bits_deBruijn64tab), ("internal/strconv.uint64pow10", Rows.laid_internal_strconv_uint64pow10)]
theorem tPow : (Tryd.prog.globals[0]?).map (·.type) = some 79 := by kernel_rfl
theorem u59 : Tryd.prog.underlying 59 = some (.int .u64) := by kernel_rfl
theorem pow_data : (Rows.laid_internal_strconv_uint64pow10 : DataW Unit) = Lib.tabData .u64 Lib.pow10Tab := by kernel_rfl
theorem pow_ok {W : World} (h : laidMetH Tryd.prog laidPow W) : PowOk (memB W) := by
  rw [MakeChecks.laidMetH_plain _ _ _ (by kernel_rfl)] at h
  have h2 := h.tail.tail
  rw [pow_data] at h2
  have h7 := Lib.tabIs_of_head gPow tPow Tryd.underlying79 u59 (by kernel_rfl) (by kernel_rfl) h2
  unfold Lib.TabIs World.var? at h7
  rw [gPow] at h7
  simp only [Option.bind_some] at h7
  split at h7
  · rename_i c t' fz hc
    cases h7
    exact ⟨_, _, hc⟩
  · cases h7
theorem door_met (os : Os) (args : Array Value) : laidMetH Tryd.prog laidPow ((World.doorLaid Tryd.prog 400 os).forCall (fun _ _ => 0) ⟨#[], args, []⟩).memory :=
  laidMetH_of_parts3 (fuel := 8) (laidMet_of_run' 8 (by kernel_rfl) (by kernel_rfl)) (by kernel_rfl) (by kernel_rfl)

theorem run3 {H : Type} {enc : TypeId × Value → H} (W : World) (base : Nat) (hL : laidMetH Tryd.prog laidPow W) (v0 : Value) (hv0 : Value.okWide Tryd.prog W .any base 24 v0) {d0 : DataW H} {p0 : List MemPlace}
    (h0 : DataW.Trod enc Tryd.prog W 0 (fun _ => true) true 24 v0 d0 p0) : groundL [v0] = true ∧ ∃ M ns, RoOk M W ∧ ACalls Tryd.prog M 3 [v0] [] (.bool true) [] ns := by
  obtain ⟨s, R, dh, code, rfl, hraw, hob, h1, h2, h3, h4⟩ := rep_arg hv0 h0
  refine ⟨?_, memB W, [], ro_memB W, law3 hraw (pow_ok hL) hob h1 h2 h3 h4⟩
  obtain ⟨zz, b, off, n, c⟩ := s
  cases zz <;> rfl

set_option maxRecDepth 100000 in
theorem FnExactTellReport_lifted (os : Os) (started : os.Started) (H : Type) (enc : TypeId × Value → H) :
    ReturnsInHanded {} Tryd.checked os 3 .any (fun w args => (Rows.fnExactTellReportSpec.pre enc Tryd.prog Tryd.f3 [] false w args ∧ laidMetH Tryd.prog laidPow w) ∧ sizedMet enc Tryd.prog Tryd.f3 (OpenSpec.ofChange Rows.fnExactTellReportSpec) false w args)
      (Rows.fnExactTellReportSpec.post enc Tryd.prog Tryd.f3 false true false false) :=
  liftedL own (by kernel_rfl) Tryd.func3 (tb := 4) (by kernel_rfl) Tryd.underlying4 (by kernel_rfl) (by kernel_rfl) (laid := laidPow) (fun H ds gs h h2 => by
      obtain ⟨_, rfl⟩ := len1 (l := ds) (h.trans (by kernel_rfl)); obtain rfl := List.length_eq_zero_iff.1 (h2.trans (by kernel_rfl) : gs.length = 0); rfl)
    (fun W base H enc args ds ps hL h hv => by
      rw [show Tryd.f3.params = _ from Tryd.params3] at h hv
      obtain ⟨v0, d0, rfl, rfl, h0⟩ := Go.ChangeShapes.trodAll_one h
      exact run3 W base hL v0 (hv 0 _ v0 rfl rfl) h0) os started enc
    (ChangeSpec.witness_shaped (enc := enc) (C := Tryd.checked) (os := os) (X := fun w _ => laidMetH Tryd.prog laidPow w) false (World.doorLaid Tryd.prog 400 os) #[(.agg #[.slice none 0 0, .int .i64 0, .int .i64 0])] 64 rfl (World.shaped_of_RefB (by kernel_rfl) (by kernel_rfl)) (by kernel_rfl) (by kernel_rfl) (by kernel_rfl) (door_met os _))

set_option maxRecDepth 100000 in
theorem FnExactTellReport_row : Rows.FnExactTellReportSaid :=
  OpenClaim.holds_of_wide 3 Tryd.f3 rfl rfl rfl rfl rfl rfl rfl ⟨rfl, rfl, rfl, rfl, rfl⟩ rfl rfl rfl rfl rfl (by kernel_rfl) Tryd.func3 (by kernel_rfl)
    (of_decide_eq_true (by kernel_rfl)) (by unfold Func.isWrapper; first | (rw [if_pos (by decide +kernel)]; kernel_rfl) | (rw [if_neg (by decide +kernel)]; exact ⟨rfl, rfl⟩))
    (fun os started H enc _ => FnExactTellReport_lifted os started H enc)

set_option maxRecDepth 100000 in
/-- The statement: the row with its variables tied to the program's text. -/
theorem FnExactTellReport_holds : Rows.FnExactTellReportCardSaid :=
  Claim7.holds_tied_plain_at .later [] [.data, .data, .data] true (true, "e49568e75a3f38577d7855a7914ed1124ac6d6d155a1d85dd96774374cf73c94") false
    FnExactTellReport_row (fun _ h => by cases h) (by kernel_rfl) (fun _ h => by cases h) fnExactTellReport_row_tie rfl ⟨rfl, rfl⟩ (by kernel_rfl) rfl
    (fun f fn hf hfn => by
      obtain rfl : f = 3 := Option.some.inj ((show Tryd.prog.funcNamed "loop.example/s02974/laws.FnExactTellReport" = some 3 by kernel_rfl).symm.trans hf) |>.symm
      obtain rfl : fn = Tryd.f3 := (Option.some.inj (Tryd.func3.symm.trans hfn)).symm
      exact ⟨by kernel_rfl, fun j t ht => by
        rw [Tryd.params3] at ht
        have hm : t ∈ [24] := by simpa using Array.mem_of_getElem? ht
        have hall : ([24].all fun u => !Tryd.prog.wantsStandIn u) = true := by kernel_rfl
        exact (show Tryd.prog.wantsStandIn t = false by simpa using List.all_eq_true.1 hall t hm)⟩)
    (by kernel_rfl)


end Go.Proofs.YtfkdcpinajnbfaaDoor
