/- The law FnSealing: the end.
   Conditions: the variable chaWords is as the program's text lays it; the card ties it to that text. -/
import Derived.Test.YtgnbmjhljlbkhaaDoorSealingFacts
import Derived.Test.YtgnbmjhljlbkhaaDoorTie
import Derived.Test.YtgnbmjhljlbkhaaDoorCards
open Go.Ab Go.Num
set_option linter.unusedVariables false
set_option linter.unusedSimpArgs false
namespace Go.Proofs.YtgnbmjhljlbkhaaDoor

theorem cells_wd {n : Nat} {x : Nat → Int} : cellsI .u8 n x = cellsI .u8 n (wd (cellsI .u8 n x)) := cellsI_congr fun i hi => (wd_cellsI hi).symm
theorem lenS_lenS (u : Option (Nat × Nat)) (n : Nat) : lenS u (lenS u n) = lenS u n := by cases u <;> rfl

theorem xOk_of {N m : Nat} {K Q X B : List Value} {s : List Value} (hs : SrcIs s) (eK : K = cellsI .u8 32 (wd K)) (eQ : Q = cellsI .u8 12 (wd Q)) (rK : rngB K = true) (rQ : rngB Q = true) (hN : N ≤ 65536) (hX : X = cellsI .u8 N (wd X)) (hB : B = cellsI .u8 (N + 16) (wd B))
    (hj : ∀ j, j < N → wd B j = strF K Q X 0 j) : XOk N N N m m m (N + 16) (N + 16) (N + 16) (N : Int) s X B K Q where
  e := ⟨rfl, rfl, rfl, rfl, rfl, rfl, rfl, rfl⟩
  hN := eQ
  hK := eK
  hs := hs
  hB := ⟨hN, hX, hB, by rw [← eK]; exact rK, by rw [← eQ]; exact rQ, fun j h => by rw [← eK, ← eQ]; exact hj j h⟩

theorem yOk_of {N m : Nat} {K Q Y B : List Value} {u : Option (Nat × Nat)} {n c : Nat} {si : Int} {M : Mem} (hu : u = none → n = 0 ∧ c = 0) (hs : srcOk M (srcA u) (lenS u n) si = true) (eK : K = cellsI .u8 32 (wd K)) (eQ : Q = cellsI .u8 12 (wd Q)) (rK : rngB K = true) (rQ : rngB Q = true)
    (hN : N ≤ 65536) (hm : m ≤ 65536) (hY : Y = cellsI .u8 m (wd Y)) (hB : B = cellsI .u8 (N + 16) (wd B)) (rY : rngB Y = true) (rB : rngB B = true) : YOk m m m (N + 16) (N + 16) (N + 16) (srcA u) (lenS u n) c si M Y B K Q where
  e := ⟨rfl, rfl, rfl, rfl, by omega, by omega, hm⟩
  hN := eQ
  hK := eK
  rN := rQ
  rK := rK
  hY := hY
  hB := hB
  rY := rY
  rB := rB
  hu := ⟨u, rfl, (lenS_lenS u n).symm, fun h => (hu h).2, by rw [lenS_lenS]; exact hs⟩

theorem rngB_box {K Q X Y : List Value} {N m : Nat} : rngB (cellsI .u8 (N + 16) (boxF K Q X 0 N Y 0 m)) = true := by
  unfold rngB
  rw [List.all_eq_true]
  intro v hv
  simp only [cellsI, List.mem_map, List.mem_range] at hv
  obtain ⟨i, hi, rfl⟩ := hv
  exact hasB_iff.2 (box_has i hi)

theorem pinsL_form {M : Mem} {u : Option (Nat × Nat)} {n c : Nat} {sz : Int} {k nn x y : Nat → Int} {N m : Nat} {K Q : List Value} (hK : xK (cellsI .u8 32 k) (cellsI .u8 24 nn) = K) (hQ : xN (cellsI .u8 24 nn) = Q)
    (h1 : XOk N N N m m m (N + 16) (N + 16) (N + 16) (N : Int) (srcC u n c (sF M u n c sz).2.2 (sF M u n c sz).2.1) (cellsI .u8 N x) (cellsI .u8 (N + 16) (boxF K Q (cellsI .u8 N x) 0 N (cellsI .u8 m y) 0 m)) K Q)
    (h2 : YOk m m m (N + 16) (N + 16) (N + 16) (srcA u) (lenS u n) c (sF M u n c sz).2.2 M (cellsI .u8 m y) (cellsI .u8 (N + 16) (boxF K Q (cellsI .u8 N x) 0 N (cellsI .u8 m y) 0 m)) (cellsI .u8 32 (wd K)) (cellsI .u8 12 (wd Q))) : Held (pinsL M u n c sz k nn x y N m) := by
  refine held_cons (@decide_eq_true _ (Classical.propDecidable _) ?_) (held_one (@decide_eq_true _ (Classical.propDecidable _) ?_))
  · simp only [cpY_cells, sub_eq, sh_eq, hK, hQ]; exact h1
  · simp only [cpY_cells, sub_eq, sh_eq, hK, hQ]; exact h2

theorem pinsL_held {M : Mem} {u : Option (Nat × Nat)} {n c : Nat} {sz : Int} {k nn x y : Nat → Int} {N m : Nat} (hu : u = none → n = 0 ∧ c = 0) (hs : srcOk M (srcA u) (lenS u n) (sF M u n c sz).2.2 = true)
    (hk : ∀ i, IntKind.u8.has (k i)) (hn : ∀ i, IntKind.u8.has (nn i)) (hx : ∀ i, IntKind.u8.has (x i)) (hy : ∀ i, IntKind.u8.has (y i)) (hN : N ≤ 65536) (hm : m ≤ 65536) : Held (pinsL M u n c sz k nn x y N m) := by
  have rQ : rngB (xN (cellsI .u8 24 nn)) = true := xN_rng (rngB_cellsI (n := 24) hn)
  have rK : rngB (xK (cellsI .u8 32 k) (cellsI .u8 24 nn)) = true := xK_rng _ _
  have eQ : xN (cellsI .u8 24 nn) = cellsI .u8 12 (wd (xN (cellsI .u8 24 nn))) := cells_wd
  have eK : xK (cellsI .u8 32 k) (cellsI .u8 24 nn) = cellsI .u8 32 (wd (xK (cellsI .u8 32 k) (cellsI .u8 24 nn))) := cells_wd
  generalize hK : xK (cellsI .u8 32 k) (cellsI .u8 24 nn) = K at rK eK
  generalize hQ : xN (cellsI .u8 24 nn) = Q at rQ eQ
  refine pinsL_form hK hQ (xOk_of ⟨u, n, c, _, _, rfl, hu⟩ eK eQ rK rQ hN cells_wd cells_wd fun j hj => (wd_cellsI (by omega)).trans (box_lo hj)) ?_
  rw [← eK, ← eQ]
  exact yOk_of hu hs eK eQ rK rQ hN hm cells_wd cells_wd (rngB_cellsI hy) rngB_box

theorem pins9_held {M : Mem} {u : Option (Nat × Nat)} {n c : Nat} {sz : Int} (hu : u = none → n = 0 ∧ c = 0) (hl : lenS u n ≤ 1048576) (h : srcOk M (srcA u) (lenS u n) 0 = true) (hz : 0 ≤ sz ∧ sz ≤ 300) : Held (pins9 M u n c sz) := by
  obtain ⟨h1, h2, h3⟩ := srcOk_iff.1 h
  have hs : ∀ q : Int, 0 ≤ q → srcOk M (srcA u) (lenS u n) q = true := fun q hq => srcOk_iff.2 ⟨h1, h2, hq⟩
  obtain ⟨a1, a2, _⟩ := arrR_ok (dK_x M) (u := u) (n := n) (c := c) (g := false) (e := 1) (p := seedC (lenS u n)) h
  obtain ⟨b1, b2, _⟩ := arrR_ok (dA_x M) (u := u) (n := n) (c := c) (g := false) (e := 1) (p := (sA M u n c).2) (hs _ a2)
  obtain ⟨c1, c2, _⟩ := lenR_ok (l36_x M) (u := u) (n := n) (c := c) (g := false) (e := 1) (p := (sB M u n c).2) (k := sz) (hs _ b2) hz
  have ek : sK M u n c sz = 1 + (sC M u n c sz).1 := Ab.wrap_i64 (by show _ ≤ 1 + (sC M u n c sz).1; have : 0 ≤ (sC M u n c sz).1 := c1.1; omega) (by show 1 + (sC M u n c sz).1 ≤ _; have : (sC M u n c sz).1 ≤ 300 := c1.2; omega)
  have hc1 : 0 ≤ (sC M u n c sz).1 ∧ (sC M u n c sz).1 ≤ 300 := c1
  have rk : 0 ≤ sK M u n c sz ∧ sK M u n c sz ≤ 1048576 := by rw [ek]; omega
  obtain ⟨d1, d2, _⟩ := bytR_ok (dB_x M) (u := u) (n := n) (c := c) (g := false) (e := 1) (p := (sC M u n c sz).2) (k := sK M u n c sz) (hs _ c2) rk
  obtain ⟨e1, e2, _⟩ := lenR_ok (l36_x M) (u := u) (n := n) (c := c) (g := false) (e := 1) (p := (sD M u n c sz).2) (k := 60) (hs _ d2) (by decide)
  have he1 : 0 ≤ (sE M u n c sz).1 ∧ (sE M u n c sz).1 ≤ 300 := e1
  have re : 0 ≤ (sE M u n c sz).1 ∧ (sE M u n c sz).1 ≤ 1048576 := by omega
  obtain ⟨f1, f2, _⟩ := bytR_ok (dB_x M) (u := u) (n := n) (c := c) (g := false) (e := 1) (p := (sE M u n c sz).2) (k := (sE M u n c sz).1) (hs _ e2) re
  have q1 : (sK M u n c sz).toNat ≤ 65536 := by omega
  have q2 : (sE M u n c sz).1.toNat ≤ 65536 := by omega
  unfold pins9
  refine held_two (held_two ?_ (pinsS_held a1 b1 d1 f1 q1 q2)) (pinsL_held hu (hs _ f2) a1 b1 d1 f1 q1 q2)
  exact held_cons (by rw [decide_eq_false_iff_not]; omega) (held_cons h (held_cons (hs _ a2) (held_cons (hs _ b2) (held_cons (decide_eq_true hz) (held_cons (hs _ c2) (held_cons (decide_eq_true rk) (held_cons (hs _ d2) (held_cons rfl (held_cons (hs _ e2) (held_one (decide_eq_true re)))))))))))

theorem nOk_roS {M : Mem} {b off n : Nat} (h : RoS M b off n) : nOk M (some ⟨b, off, none⟩) n = true := by
  simp only [nOk, Option.isNone_none, Bool.true_and, List.all_eq_true]
  intro j hj
  exact (h j (List.mem_range.1 hj)).1
set_option maxRecDepth 100000 in
theorem run9 (W : World) (base : Nat) (hL : laidMetH Tryd.prog laidCha W) (v0 : Value) (h0 : Value.okWide Tryd.prog W .any base 36 v0) {H : Type} {enc : TypeId × Value → H} {d : DataW H} {p : List MemPlace} (t0 : DataW.Trod enc Tryd.prog W 0 (fun _ => true) true 36 v0 d p) :
    groundL [v0] = true ∧ ∃ M ns, RoOk M W ∧ ACalls Tryd.prog M 9 [v0] [] (.bool true) [] ns := by
  have ok : RoOk (memL tblCha W) W := ro_memL (ro_cha hL)
  rcases arg36 hL h0 t0 with rfl | ⟨b, off, n, c, rfl, x1⟩
  · exact ⟨rfl, memL tblCha W, [], ok, acalls_of_evFU (ovE_ok _ _) (LS_sound W) mix Tryd.func9 (hooks_both W) (r9z W) (pins9_held (fun _ => ⟨rfl, rfl⟩) (by decide) (srcOk_iff.2 ⟨by simp [nOk, srcA, lenS], by decide, by decide⟩) (by decide))⟩
  · refine ⟨rfl, memL tblCha W, [], ok, ?_⟩
    by_cases hb : n ≤ 1048576
    · exact acalls_of_evFU (ovE_ok _ _) (LS_sound W) mix Tryd.func9 (hooks_both W) (r9s W b off n c) (pins9_held (fun h => by cases h) hb (srcOk_iff.2 ⟨nOk_roS x1, hb, by decide⟩) (szV_range hb))
    · exact acalls_of_evFU (ovE_ok _ _) (LS_sound W) mix Tryd.func9 (hooks_both W) (r9l W b off n c) (held_one (by rw [decide_eq_true_eq]; omega))
set_option maxRecDepth 100000 in
theorem FnSealing_lifted (os : Os) (started : os.Started) (H : Type) (enc : TypeId × Value → H) :
    ReturnsInHanded {} Tryd.checked os 9 .any (fun w args => (Rows.fnSealingSpec.pre enc Tryd.prog Tryd.f9 [] false w args ∧ laidMetH Tryd.prog laidCha w) ∧ sizedMet enc Tryd.prog Tryd.f9 (OpenSpec.ofChange Rows.fnSealingSpec) false w args)
      (Rows.fnSealingSpec.post enc Tryd.prog Tryd.f9 false true false false) :=
  liftedL own (by kernel_rfl) Tryd.func9 (tb := 4) (by kernel_rfl) Tryd.underlying4 (by kernel_rfl) (by kernel_rfl) (laid := laidCha) (fun H ds gs h h2 => by
      obtain ⟨_, rfl⟩ := len1 (l := ds) (h.trans (by kernel_rfl)); obtain ⟨_, rfl⟩ := len1 (l := gs) (h2.trans (by kernel_rfl)); rfl)
    (fun W base H enc args ds ps hL h hv => by
      rw [show Tryd.f9.params = _ from Tryd.params9] at h hv
      obtain ⟨v0, d0, rfl, rfl, h0⟩ := Go.ChangeShapes.trodAll_one h
      exact run9 W base hL v0 (hv 0 _ v0 rfl rfl) h0) os started enc
    (ChangeSpec.witness_shaped (enc := enc) (C := Tryd.checked) (os := os) (X := fun w _ => laidMetH Tryd.prog laidCha w) false (World.doorLaid Tryd.prog 400 os) #[(.slice none 0 0)] 64 rfl (World.shaped_of_RefB (by kernel_rfl) (by kernel_rfl)) (by kernel_rfl) (by kernel_rfl) (by kernel_rfl) (door_met os _))

set_option maxRecDepth 100000 in
theorem FnSealing_row : Rows.FnSealingSaid :=
  OpenClaim.holds_of_wide 9 Tryd.f9 rfl rfl rfl rfl rfl rfl rfl ⟨rfl, rfl, rfl, rfl, rfl⟩ rfl rfl rfl rfl rfl (by kernel_rfl) Tryd.func9 (by kernel_rfl)
    (of_decide_eq_true (by kernel_rfl)) (by unfold Func.isWrapper; first | (rw [if_pos (by decide +kernel)]; kernel_rfl) | (rw [if_neg (by decide +kernel)]; exact ⟨rfl, rfl⟩))
    (fun os started H enc _ => FnSealing_lifted os started H enc)

set_option maxRecDepth 100000 in
/-- The statement: the row with its variables tied to the program's text. -/
theorem FnSealing_holds : Rows.FnSealingCardSaid :=
  Claim7.holds_tied_plain_at .later [] [.widerDeep] true (true, "4e403907b894438770c9b4d8f2302bf91f824e52f63195d1585c3c77d878912d") false
    FnSealing_row (fun _ h => by cases h) (by kernel_rfl) (fun _ h => by cases h) fnSealing_row_tie rfl ⟨rfl, rfl⟩ (by kernel_rfl) rfl
    (fun f fn hf hfn => by
      obtain rfl : f = 9 := Option.some.inj ((show Tryd.prog.funcNamed "loop.example/s02974/laws.FnSealing" = some 9 by kernel_rfl).symm.trans hf) |>.symm
      obtain rfl : fn = Tryd.f9 := (Option.some.inj (Tryd.func9.symm.trans hfn)).symm
      exact ⟨by kernel_rfl, fun j t ht => by
        rw [Tryd.params9] at ht
        have hm : t ∈ [36] := by simpa using Array.mem_of_getElem? ht
        have hall : ([36].all fun u => !Tryd.prog.wantsStandIn u) = true := by kernel_rfl
        exact (show Tryd.prog.wantsStandIn t = false by simpa using List.all_eq_true.1 hall t hm)⟩)
    (by kernel_rfl)

end Go.Proofs.YtgnbmjhljlbkhaaDoor
