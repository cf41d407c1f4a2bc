/- The law FnExactParseInitiation returns true of every slice of bytes, which reads behind the call as before.
   Conditions: the variable errShape is as the program's text lays it; the card ties it to that text. -/
import Derived.Test.YthflpgckojnbmaaDoorParse
import Derived.Test.YthflpgckojnbmaaDoorTie
import Derived.Test.YthflpgckojnbmaaDoorCards
open Go.Ab Go.Num
set_option linter.unusedVariables false
set_option linter.unusedSimpArgs false
namespace Go.Proofs.YthflpgckojnbmaaDoor

/-- What the evaluations ask for: the head right; wrong in its byte j; another length. -/
noncomputable def good4 (ab ao : Nat) (ra : Pins) (x : Nat → Int) : Pins :=
  ra ++ headS 1 x 4 ++ ra ++ headI 1 x false ++ isNil ab ao ++ [(wordI (x 4) (x 5) (x 6) (x 7) != wordS (x 4) (x 5) (x 6) (x 7), false)] ++ neP ((List.range 140).map fun i => x (8 + i)) ++ ra ++ eqP 148 (cellsI .u8 148 x) (cellsI .u8 148 x)
noncomputable def bad4 (ab ao : Nat) (ra : Pins) (x : Nat → Int) (j : Nat) : Pins :=
  ra ++ headS 1 x j ++ ra ++ headI 1 x true ++ isSame ab ao ++ neP (List.replicate 141 0) ++ ra ++ eqP 148 (cellsI .u8 148 x) (cellsI .u8 148 x)
noncomputable def len4 (ab ao : Nat) (ra : Pins) (n : Nat) (x : Nat → Int) : Pins :=
  [(decide ((n : Int) > 1048576), false)] ++ ra ++ [((n : Int) == 148, false)] ++ ra ++ [((n : Int) != 148, true)] ++ isSame ab ao ++ neP (List.replicate 141 0) ++ ra ++ eqP n (cellsI .u8 n x) (cellsI .u8 n x)

set_option maxRecDepth 100000 in
theorem r4g (W : World) (ab ao b1 o1 c : Nat) : evFC Tryd.prog (memL (tblErr ab ao) W) (L4 (memL (tblErr ab ao) W) [16, 22, 28, 34] (headO 4) [17] false) [37] 1000 Tryd.f4 [.slice (some ⟨b1, o1, none⟩) 148 c] [] [false]
   = some ((.bool true, [], []), good4 ab ao [(roAll (memL (tblErr ab ao) W) b1 o1 148, true)] (roN (memL (tblErr ab ao) W) b1 o1)) := by kernel_rfl
set_option maxRecDepth 100000 in
theorem r4b0 (W : World) (ab ao b1 o1 c : Nat) : evFC Tryd.prog (memL (tblErr ab ao) W) (L4 (memL (tblErr ab ao) W) [16, 22, 28, 34] (headO 0) [17] true) [37] 1000 Tryd.f4 [.slice (some ⟨b1, o1, none⟩) 148 c] [] [false]
   = some ((.bool true, [], []), bad4 ab ao [(roAll (memL (tblErr ab ao) W) b1 o1 148, true)] (roN (memL (tblErr ab ao) W) b1 o1) 0) := by kernel_rfl
set_option maxRecDepth 100000 in
theorem r4b1 (W : World) (ab ao b1 o1 c : Nat) : evFC Tryd.prog (memL (tblErr ab ao) W) (L4 (memL (tblErr ab ao) W) [16, 22, 28, 34] (headO 1) [17] true) [37] 1000 Tryd.f4 [.slice (some ⟨b1, o1, none⟩) 148 c] [] [false]
   = some ((.bool true, [], []), bad4 ab ao [(roAll (memL (tblErr ab ao) W) b1 o1 148, true)] (roN (memL (tblErr ab ao) W) b1 o1) 1) := by kernel_rfl
set_option maxRecDepth 100000 in
theorem r4b2 (W : World) (ab ao b1 o1 c : Nat) : evFC Tryd.prog (memL (tblErr ab ao) W) (L4 (memL (tblErr ab ao) W) [16, 22, 28, 34] (headO 2) [17] true) [37] 1000 Tryd.f4 [.slice (some ⟨b1, o1, none⟩) 148 c] [] [false]
   = some ((.bool true, [], []), bad4 ab ao [(roAll (memL (tblErr ab ao) W) b1 o1 148, true)] (roN (memL (tblErr ab ao) W) b1 o1) 2) := by kernel_rfl
set_option maxRecDepth 100000 in
theorem r4b3 (W : World) (ab ao b1 o1 c : Nat) : evFC Tryd.prog (memL (tblErr ab ao) W) (L4 (memL (tblErr ab ao) W) [16, 22, 28, 34] (headO 3) [17] true) [37] 1000 Tryd.f4 [.slice (some ⟨b1, o1, none⟩) 148 c] [] [false]
   = some ((.bool true, [], []), bad4 ab ao [(roAll (memL (tblErr ab ao) W) b1 o1 148, true)] (roN (memL (tblErr ab ao) W) b1 o1) 3) := by kernel_rfl
set_option maxRecDepth 100000 in
theorem r4n (W : World) (ab ao b1 o1 n c : Nat) : evFC Tryd.prog (memL (tblErr ab ao) W) (L4 (memL (tblErr ab ao) W) [10] [false] [10] true) [10, 37] 1000 Tryd.f4 [.slice (some ⟨b1, o1, none⟩) n c] [] [false, false]
   = some ((.bool true, [], []), len4 ab ao [(roAll (memL (tblErr ab ao) W) b1 o1 n, true)] n (roN (memL (tblErr ab ao) W) b1 o1)) := by kernel_rfl
set_option maxRecDepth 100000 in
theorem r4l (W : World) (ab ao b1 o1 n c : Nat) : evFC Tryd.prog (memL (tblErr ab ao) W) (L4 (memL (tblErr ab ao) W) [10] [false] [10] true) [10, 37] 1000 Tryd.f4 [.slice (some ⟨b1, o1, none⟩) n c] [] [true]
   = some ((.bool true, [], []), [(decide ((n : Int) > 1048576), true)]) := by kernel_rfl
set_option maxRecDepth 100000 in
theorem r4z (W : World) (ab ao : Nat) : evFC Tryd.prog (memL (tblErr ab ao) W) (L4 (memL (tblErr ab ao) W) [10] [false] [10] true) [10, 37] 1000 Tryd.f4 [.slice none 0 0] [] [false, false]
   = some ((.bool true, [], []), len4 ab ao [] 0 (fun _ => 0)) := by kernel_rfl

set_option maxRecDepth 100000 in
theorem run4 (W : World) (base : Nat) (hL : laidMetH Tryd.prog laidErr W) (v0 : Value) (h0 : Value.okWide Tryd.prog W .any base 22 v0) {H : Type} {enc : TypeId × Value → H} {d : DataW H} {p : List MemPlace} (t0 : DataW.Trod enc Tryd.prog W 0 (fun _ => true) true 22 v0 d p) :
    groundL [v0] = true ∧ ∃ M ns, RoOk M W ∧ ACalls Tryd.prog M 4 [v0] [] (.bool true) [] ns := by
  obtain ⟨ab, ao, hr⟩ := ro_err hL
  have ok : RoOk (memL (tblErr ab ao) W) W := ro_memL hr
  have hs : Held (isSame ab ao) := isP_same
  have hn : Held (isNil ab ao) := isP_nil
  rcases arg22 hr h0 t0 with rfl | ⟨b1, o1, n, c, rfl, x1⟩
  · refine ⟨rfl, memL (tblErr ab ao) W, [], ok, ?_⟩
    refine acalls_of_evFC (L4_sound _ _ _ _ _) mix Tryd.func4 (r4z W ab ao) ?_
    exact held_two (held_two (held_two (held_two (held_two (held_two (held_two (held_two (held_one (by decide)) held_nil) (held_one (by decide))) held_nil) (held_one (by decide))) hs) (neP_held _)) held_nil) (eqP_held (by omega))
  · refine ⟨rfl, memL (tblErr ab ao) W, [], ok, ?_⟩
    by_cases hb : n ≤ 1048576
    · have ra := held_one (roS_all x1 (by omega))
      by_cases hk : n = 148
      · subst hk
        have hx : ∀ i, i < 8 → IntKind.u8.has (roN (memL (tblErr ab ao) W) b1 o1 i) := fun i hi => (x1 i (by omega)).2
        have hx4 : ∀ i, i < 4 → IntKind.u8.has (roN (memL (tblErr ab ao) W) b1 o1 i) := fun i hi => (x1 i (by omega)).2
        have k8 : IntKind.u8.has 1 := ⟨by decide, by decide⟩
        have he := eqP_held (n := 148) (x := roN (memL (tblErr ab ao) W) b1 o1) (by omega)
        cases hg : headR 1 (roN (memL (tblErr ab ao) W) b1 o1) with
        | true =>
          refine acalls_of_evFC (L4_sound _ _ _ _ _) mix Tryd.func4 (r4g W ab ao b1 o1 c) ?_
          exact held_two (held_two (held_two (held_two (held_two (held_two (held_two (held_two ra (headS_good hg)) ra) (headI_held k8 hx4 (by rw [hg]; rfl))) hn) (held_one (words_ne hx))) (neP_held _)) ra) he
        | false =>
          have fin : ∀ j, Held (headS 1 (roN (memL (tblErr ab ao) W) b1 o1) j) → Held (bad4 ab ao [(roAll (memL (tblErr ab ao) W) b1 o1 148, true)] (roN (memL (tblErr ab ao) W) b1 o1) j) := fun j h =>
            held_two (held_two (held_two (held_two (held_two (held_two (held_two ra h) ra) (headI_held k8 hx4 (by rw [hg]; rfl))) hs) (neP_held _)) ra) he
          rcases headS_bad hg with h | h | h | h
          · exact acalls_of_evFC (L4_sound _ _ _ _ _) mix Tryd.func4 (r4b0 W ab ao b1 o1 c) (fin 0 h)
          · exact acalls_of_evFC (L4_sound _ _ _ _ _) mix Tryd.func4 (r4b1 W ab ao b1 o1 c) (fin 1 h)
          · exact acalls_of_evFC (L4_sound _ _ _ _ _) mix Tryd.func4 (r4b2 W ab ao b1 o1 c) (fin 2 h)
          · exact acalls_of_evFC (L4_sound _ _ _ _ _) mix Tryd.func4 (r4b3 W ab ao b1 o1 c) (fin 3 h)
      · refine acalls_of_evFC (L4_sound _ _ _ _ _) mix Tryd.func4 (r4n W ab ao b1 o1 n c) ?_
        have h1 : ((n : Int) == 148) = false := by rw [beq_eq_false_iff_ne]; omega
        have h2 : ((n : Int) != 148) = true := by rw [bne_iff_ne]; omega
        exact held_two (held_two (held_two (held_two (held_two (held_two (held_two (held_two (held_one (by rw [decide_eq_false_iff_not]; omega)) ra) (held_one h1)) ra) (held_one h2)) hs) (neP_held _)) ra) (eqP_held (by omega))
    · exact acalls_of_evFC (L4_sound _ _ _ _ _) mix Tryd.func4 (r4l W ab ao b1 o1 n c) (held_one (by rw [decide_eq_true_eq]; omega))

set_option maxRecDepth 100000 in
theorem FnExactParseInitiation_lifted (os : Os) (started : os.Started) (H : Type) (enc : TypeId × Value → H) :
    ReturnsInHanded {} Tryd.checked os 4 .any (fun w args => (Rows.fnExactParseInitiationSpec.pre enc Tryd.prog Tryd.f4 [] false w args ∧ laidMetH Tryd.prog laidErr w) ∧ sizedMet enc Tryd.prog Tryd.f4 (OpenSpec.ofChange Rows.fnExactParseInitiationSpec) false w args)
      (Rows.fnExactParseInitiationSpec.post enc Tryd.prog Tryd.f4 false true false false) :=
  liftedL own (by kernel_rfl) Tryd.func4 (tb := 4) (by kernel_rfl) Tryd.underlying4 (by kernel_rfl) (by kernel_rfl) (laid := laidErr) (fun H ds gs h h2 => by
      obtain ⟨_, rfl⟩ := len1 (l := ds) (h.trans (by kernel_rfl)); obtain ⟨_, rfl⟩ := len1 (l := gs) (h2.trans (by kernel_rfl)); rfl)
    (fun W base H enc args ds ps hL h hv => by
      rw [show Tryd.f4.params = _ from Tryd.params4] at h hv
      obtain ⟨v0, d0, rfl, rfl, h0⟩ := Go.ChangeShapes.trodAll_one h
      exact run4 W base hL v0 (hv 0 _ v0 rfl rfl) h0) os started enc
    (ChangeSpec.witness_shaped (enc := enc) (C := Tryd.checked) (os := os) (X := fun w _ => laidMetH Tryd.prog laidErr w) false (World.doorLaid Tryd.prog 400 os) #[(.slice none 0 0)] 64 rfl (World.shaped_of_RefB (by kernel_rfl) (by kernel_rfl)) (by kernel_rfl) (by kernel_rfl) (by kernel_rfl) (door_met os _))

set_option maxRecDepth 100000 in
theorem FnExactParseInitiation_row : Rows.FnExactParseInitiationSaid :=
  OpenClaim.holds_of_wide 4 Tryd.f4 rfl rfl rfl rfl rfl rfl rfl ⟨rfl, rfl, rfl, rfl, rfl⟩ rfl rfl rfl rfl rfl (by kernel_rfl) Tryd.func4 (by kernel_rfl)
    (of_decide_eq_true (by kernel_rfl)) (by unfold Func.isWrapper; first | (rw [if_pos (by decide +kernel)]; kernel_rfl) | (rw [if_neg (by decide +kernel)]; exact ⟨rfl, rfl⟩))
    (fun os started H enc _ => FnExactParseInitiation_lifted os started H enc)

set_option maxRecDepth 100000 in
/-- The statement: the row with its variables tied to the program's text. -/
theorem FnExactParseInitiation_holds : Rows.FnExactParseInitiationCardSaid :=
  Claim7.holds_tied_plain_at .later [] [.sentinel] true (true, "1a856eb2d090c9dd47b13963a07a1c7e1fd0e2b202da5bd8932b0fe831152f7b") true
    FnExactParseInitiation_row (fun _ h => by cases h) (by kernel_rfl) (fun _ h => by cases h) fnExactParseInitiation_row_tie rfl ⟨rfl, rfl⟩ (by kernel_rfl) rfl
    (fun f fn hf hfn => by
      obtain rfl : f = 4 := Option.some.inj ((show Tryd.prog.funcNamed "loop.example/s02974/laws.FnExactParseInitiation" = some 4 by kernel_rfl).symm.trans hf) |>.symm
      obtain rfl : fn = Tryd.f4 := (Option.some.inj (Tryd.func4.symm.trans hfn)).symm
      exact ⟨by kernel_rfl, fun j t ht => by
        rw [Tryd.params4] at ht
        have hm : t ∈ [22] := by simpa using Array.mem_of_getElem? ht
        have hall : ([22].all fun u => !Tryd.prog.wantsStandIn u) = true := by kernel_rfl
        exact (show Tryd.prog.wantsStandIn t = false by simpa using List.all_eq_true.1 hall t hm)⟩)
    (by kernel_rfl)


end Go.Proofs.YthflpgckojnbmaaDoor
