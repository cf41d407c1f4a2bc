/- Facts on this program: how its loops over slices of bytes compare, mark and hold.
   Conditions: none. -/
import Derived.Test.YtfkdcpinajnbfaaDoorAbC
import Derived.Test.YtfkdcpinajnbfaaDoorBase
open Go.Ab
set_option linter.unusedVariables false
set_option linter.unusedSimpArgs false
namespace Go.Proofs.YtfkdcpinajnbfaaDoor


/-! ### eqByteS -/
noncomputable def loop8 : Code := loopOf 0 (Tryd.f8.body.getD .skip)
set_option maxRecDepth 100000 in
theorem occ8 : occ 0 (Tryd.f8.body.getD .skip) = [.loop loop8] := by kernel_rfl

set_option maxRecDepth 100000 in
theorem step8 (M : Mem) (f1 s1 n1 c1 f2 s2 n2 c2 : Nat) (o1 o2 : AObj) (i : Nat) (z : Nat → Value) :
   viewU [0, 1, 5] (evU Tryd.prog M (ovStd Tryd.prog M) [19, 20, 23, 24] [] [] [14, 25] 200 loop8
     ⟨mkT 26 [0, 1, 5] [.slice (some ⟨0, f1, some s1⟩) n1 c1, .slice (some ⟨1, f2, some s2⟩) n2 c2, .int .i64 (ctr i)] z, [some o1, some o2]⟩ [true, false])
   = some (.normal, [.slice (some ⟨0, f1, some s1⟩) n1 c1, .slice (some ⟨1, f2, some s2⟩) n2 c2, .int .i64 (ctr (i + 1))], [some o1, some o2], 26,
      [(decide (ctr i < (n1 : Int)), true), (inB (ctr i) n1, true), (ldB .u8 o1 s1 (f1 + (ctr i).toNat * 1), true), (inB (ctr i) n2, true), (ldB .u8 o2 s2 (f2 + (ctr i).toNat * 1), true),
        (vint (atC o1.cells (f1 + (ctr i).toNat * 1)) != vint (atC o2.cells (f2 + (ctr i).toNat * 1)), false)]) := by kernel_rfl

set_option maxRecDepth 100000 in
theorem diff8 (M : Mem) (f1 s1 n1 c1 f2 s2 n2 c2 : Nat) (o1 o2 : AObj) (i : Nat) (z : Nat → Value) :
   viewU [4] (evU Tryd.prog M (ovStd Tryd.prog M) [19, 20, 23, 24] [] [] [14, 25] 200 loop8
     ⟨mkT 26 [0, 1, 5] [.slice (some ⟨0, f1, some s1⟩) n1 c1, .slice (some ⟨1, f2, some s2⟩) n2 c2, .int .i64 (ctr i)] z, [some o1, some o2]⟩ [true, true])
   = some (.ret, [.bool false], [some o1, some o2], 26,
      [(decide (ctr i < (n1 : Int)), true), (inB (ctr i) n1, true), (ldB .u8 o1 s1 (f1 + (ctr i).toNat * 1), true), (inB (ctr i) n2, true), (ldB .u8 o2 s2 (f2 + (ctr i).toNat * 1), true),
        (vint (atC o1.cells (f1 + (ctr i).toNat * 1)) != vint (atC o2.cells (f2 + (ctr i).toNat * 1)), true)]) := by kernel_rfl

set_option maxRecDepth 100000 in
theorem last8 (M : Mem) (u1 u2 : Option Addr) (n1 c1 n2 c2 : Nat) (H : AHeap) (k : Int) (z : Nat → Value) :
   viewU [] (evU Tryd.prog M (ovStd Tryd.prog M) [] [] [] [14] 200 loop8 ⟨mkT 26 [0, 1, 5] [.slice u1 n1 c1, .slice u2 n2 c2, .int .i64 k] z, H⟩ [false])
   = some (.exit 0, [], H, 26, [(decide (k < (n1 : Int)), false)]) := by kernel_rfl

/-- Both slices right, as long as one another, the loop's number at 0. -/
def pre8 (f1 s1 n1 f2 s2 n2 : Nat) (o1 o2 : AObj) (k : Int) : Pins := [(decide (k = 0), true), (sliceB o1 s1 f1 n1, true), (sliceB o2 s2 f2 n2, true), (decide (n1 = n2), true)]

def same8 (vs : List Value) (H : AHeap) : Option (AExit × List Value × AHeap × Pins) :=
  match vs, H with
  | [.slice (some ⟨0, f1, some s1⟩) n1 c1, .slice (some ⟨1, f2, some s2⟩) n2 c2, .int .i64 k], [some o1, some o2] => some (.normal, [], [some o1, some o2], (eqB (cut o1 f1 n1) (cut o2 f2 n2), true) :: pre8 f1 s1 n1 f2 s2 n2 o1 o2 k)
  | _, _ => none

def other8 (vs : List Value) (H : AHeap) : Option (AExit × List Value × AHeap × Pins) :=
  match vs, H with
  | [.slice (some ⟨0, f1, some s1⟩) n1 c1, .slice (some ⟨1, f2, some s2⟩) n2 c2, .int .i64 k], [some o1, some o2] => some (.ret, [.bool false], [some o1, some o2], (eqB (cut o1 f1 n1) (cut o2 f2 n2), false) :: pre8 f1 s1 n1 f2 s2 n2 o1 o2 k)
  | _, _ => none

theorem pre8_held {f1 s1 n1 f2 s2 n2 : Nat} {o1 o2 : AObj} {k : Int} {b c : Bool} (h : Held ((b, c) :: pre8 f1 s1 n1 f2 s2 n2 o1 o2 k)) : b = c ∧ k = 0 ∧ sliceB o1 s1 f1 n1 = true ∧ sliceB o2 s2 f2 n2 = true ∧ n1 = n2 := by
  refine ⟨h (b, c) (List.Mem.head _), by have := h (decide (k = 0), true) (by simp [pre8]); simpa using this, h (sliceB o1 s1 f1 n1, true) (by simp [pre8]), h (sliceB o2 s2 f2 n2, true) (by simp [pre8]), by have := h (decide (n1 = n2), true) (by simp [pre8]); simpa using this⟩

theorem rounds8 (M : Mem) {f1 s1 n c1 f2 s2 c2 : Nat} {o1 o2 : AObj} (h1 : sliceB o1 s1 f1 n = true) (h2 : sliceB o2 s2 f2 n = true) {m : Nat} (hm : m ≤ n) (he : ∀ i, i < m → vint (atC o1.cells (f1 + i)) = vint (atC o2.cells (f2 + i))) :
    ∀ i, i < m → ∀ z, ∃ z', Big Tryd.prog M loop8 ⟨mkT 26 [0, 1, 5] [.slice (some ⟨0, f1, some s1⟩) n c1, .slice (some ⟨1, f2, some s2⟩) n c2, .int .i64 (ctr i)] z, [some o1, some o2]⟩ .normal
      ⟨mkT 26 [0, 1, 5] [.slice (some ⟨0, f1, some s1⟩) n c1, .slice (some ⟨1, f2, some s2⟩) n c2, .int .i64 (ctr (i + 1))] z', [some o1, some o2]⟩ := by
  intro i hi z
  have hn := (sliceB_iff.1 h1).2.2.1
  refine big_view (ovStd_ok _ _) nilC mix (hooksOk_nil _) (step8 M f1 s1 n c1 f2 s2 n c2 o1 o2 i z) ?_
  rw [ctr_nat (by omega), Nat.mul_one]
  exact held_cons (by rw [decide_eq_true_eq]; exact ctr_lt (by omega) hn) (held_cons (inB_ctr (by omega) hn) (held_cons (sliceB_at h1 (by omega)) (held_cons (inB_ctr (by omega) hn) (held_cons (sliceB_at h2 (by omega)) (held_one (by rw [he i hi]; simp))))))

theorem same8_ok (M : Mem) : HooksOk Tryd.prog M [(0, mkHook Tryd.prog M 0 (.loop loop8) 26 [] same8 [0, 1, 5])] (Tryd.f8.body.getD .skip) := by
  refine hooks_one occ8 (mkHook_ok fun vs H0 e V H p z hf hp => ?_)
  unfold same8 at hf
  split at hf
  · rename_i f1 s1 n1 c1 f2 s2 n2 c2 k o1 o2
    cases hf
    obtain ⟨he, rfl, h1, h2, rfl⟩ := pre8_held hp
    obtain ⟨a1, a2, hn, a4⟩ := sliceB_iff.1 h1
    obtain ⟨b1, b2, _, b4⟩ := sliceB_iff.1 h2
    have l1 : (cut o1 f1 n1).length = n1 := cut_length (by omega)
    have l2 : (cut o2 f2 n1).length = n1 := cut_length (by omega)
    have hall := (eqB_iff a4 b4 (by omega)).1 he
    obtain ⟨z', hz⟩ := loop_big (n := n1) (e := .exit 0) (by simp) (rounds8 M (c1 := c1) (c2 := c2) h1 h2 (Nat.le_refl _) fun i hi => by
        have := hall i (by omega)
        rwa [atC_cut hi, atC_cut hi] at this)
      (fun z => big_view (ovStd_ok _ _) nilC mix (hooksOk_nil _) (last8 M _ _ n1 c1 n1 c2 _ (ctr n1) z) (held_one (by rw [decide_eq_false_iff_not, ctr_eq (by omega)]; omega))) z
    exact ⟨z', block_big hz⟩
  · cases hf

theorem other8_ok (M : Mem) : HooksOk Tryd.prog M [(0, mkHook Tryd.prog M 0 (.loop loop8) 26 [4] other8 [0, 1, 5])] (Tryd.f8.body.getD .skip) := by
  refine hooks_one occ8 (mkHook_ok fun vs H0 e V H p z hf hp => ?_)
  unfold other8 at hf
  split at hf
  · rename_i f1 s1 n1 c1 f2 s2 n2 c2 k o1 o2
    cases hf
    obtain ⟨he, rfl, h1, h2, rfl⟩ := pre8_held hp
    obtain ⟨a1, a2, hn, a4⟩ := sliceB_iff.1 h1
    obtain ⟨b1, b2, _, b4⟩ := sliceB_iff.1 h2
    have l1 : (cut o1 f1 n1).length = n1 := cut_length (by omega)
    have l2 : (cut o2 f2 n1).length = n1 := cut_length (by omega)
    have hno : ¬ ∀ i, i < n1 → vint (atC o1.cells (f1 + i)) = vint (atC o2.cells (f2 + i)) := fun hall => by
      have := (eqB_iff a4 b4 (by omega)).2 fun i hi => by rw [l1] at hi; rw [atC_cut hi, atC_cut hi]; exact hall i hi
      rw [he] at this; cases this
    obtain ⟨m, hm, e1, e2⟩ := first_diff hno
    obtain ⟨z', hz⟩ := loop_big (n := m) (e := .ret) (by simp) (rounds8 M (c1 := c1) (c2 := c2) h1 h2 (Nat.le_of_lt hm) e1)
      (fun z => big_view (ovStd_ok _ _) nilC mix (hooksOk_nil _) (diff8 M f1 s1 n1 c1 f2 s2 n1 c2 o1 o2 m z) (by
        rw [ctr_nat (by omega), Nat.mul_one]
        exact held_cons (by rw [decide_eq_true_eq]; exact ctr_lt (by omega) hn) (held_cons (inB_ctr (by omega) hn) (held_cons (sliceB_at h1 (by omega)) (held_cons (inB_ctr (by omega) hn) (held_cons (sliceB_at h2 (by omega)) (held_one (by simpa using e2)))))))) z
    exact ⟨z', block_big hz⟩
  · cases hf

set_option maxRecDepth 100000 in
theorem runSame8 (M : Mem) (f1 s1 n1 c1 f2 s2 n2 c2 e1 e2 : Nat) (cs1 cs2 : List Value) (g1 g2 : Bool) :
   evFU Tryd.prog M (ovStd Tryd.prog M) [] [(0, mkHook Tryd.prog M 0 (.loop loop8) 26 [] same8 [0, 1, 5])] [] [10] 200 Tryd.f8 [.slice (some ⟨0, f1, some s1⟩) n1 c1, .slice (some ⟨1, f2, some s2⟩) n2 c2] [⟨cs1, g1, e1, true⟩, ⟨cs2, g2, e2, true⟩] [false]
   = some ((.bool true, [⟨cs1, g1, e1, true⟩, ⟨cs2, g2, e2, true⟩], []), ((n1 : Int) != (n2 : Int), false) :: (eqB (cut ⟨cs1, g1, e1, true⟩ f1 n1) (cut ⟨cs2, g2, e2, true⟩ f2 n2), true) :: pre8 f1 s1 n1 f2 s2 n2 ⟨cs1, g1, e1, true⟩ ⟨cs2, g2, e2, true⟩ 0) := by kernel_rfl
set_option maxRecDepth 100000 in
theorem runOther8 (M : Mem) (f1 s1 n1 c1 f2 s2 n2 c2 e1 e2 : Nat) (cs1 cs2 : List Value) (g1 g2 : Bool) :
   evFU Tryd.prog M (ovStd Tryd.prog M) [] [(0, mkHook Tryd.prog M 0 (.loop loop8) 26 [4] other8 [0, 1, 5])] [] [10] 200 Tryd.f8 [.slice (some ⟨0, f1, some s1⟩) n1 c1, .slice (some ⟨1, f2, some s2⟩) n2 c2] [⟨cs1, g1, e1, true⟩, ⟨cs2, g2, e2, true⟩] [false]
   = some ((.bool false, [⟨cs1, g1, e1, true⟩, ⟨cs2, g2, e2, true⟩], []), ((n1 : Int) != (n2 : Int), false) :: (eqB (cut ⟨cs1, g1, e1, true⟩ f1 n1) (cut ⟨cs2, g2, e2, true⟩ f2 n2), false) :: pre8 f1 s1 n1 f2 s2 n2 ⟨cs1, g1, e1, true⟩ ⟨cs2, g2, e2, true⟩ 0) := by kernel_rfl
set_option maxRecDepth 100000 in
theorem runLen8 (M : Mem) (f1 s1 n1 c1 f2 s2 n2 c2 e1 e2 : Nat) (cs1 cs2 : List Value) (g1 g2 : Bool) :
   evFU Tryd.prog M (ovStd Tryd.prog M) [] [] [] [10] 200 Tryd.f8 [.slice (some ⟨0, f1, some s1⟩) n1 c1, .slice (some ⟨1, f2, some s2⟩) n2 c2] [⟨cs1, g1, e1, true⟩, ⟨cs2, g2, e2, true⟩] [true]
   = some ((.bool false, [⟨cs1, g1, e1, true⟩, ⟨cs2, g2, e2, true⟩], []), [((n1 : Int) != (n2 : Int), true)]) := by kernel_rfl
set_option maxRecDepth 100000 in
theorem runNil8 (M : Mem) : evFU Tryd.prog M (ovStd Tryd.prog M) [] [] [] [] 200 Tryd.f8 [.slice none 0 0, .slice none 0 0] [] [] = some ((.bool true, [], []), []) := by kernel_rfl

/-- eqByteS at two slices that lie in two objects, or at two empty ones. -/
def eqsSum8 : Sum :=
  { f := 8, ro := true
    S := fun args os => match args, os with
      | [.slice (some ⟨0, f1, some s1⟩) n1 c1, .slice (some ⟨1, f2, some s2⟩) n2 c2], [⟨cs1, g1, e1, true⟩, ⟨cs2, g2, e2, true⟩] => some (.bool (Nat.beq n1 n2 && eqB (cut ⟨cs1, g1, e1, true⟩ f1 n1) (cut ⟨cs2, g2, e2, true⟩ f2 n2)), [⟨cs1, g1, e1, true⟩, ⟨cs2, g2, e2, true⟩], [])
      | [.slice none 0 0, .slice none 0 0], [] => some (.bool true, [], [])
      | _, _ => none
    C := fun args os => match args, os with
      | [.slice (some ⟨0, f1, some s1⟩) n1 c1, .slice (some ⟨1, f2, some s2⟩) n2 c2], [o1, o2] => [(sliceB o1 s1 f1 n1, true), (sliceB o2 s2 f2 n2, true)]
      | _, _ => [] }

theorem eqsSum8_sound (M : Mem) : eqsSum8.SoundC Tryd.prog M := by
  refine sumC_sound Tryd.func8 (by kernel_rfl) (by kernel_rfl) fun args os v os' ns hs hp => ?_
  simp only [eqsSum8] at hs hp ⊢
  split at hs
  · rename_i f1 s1 n1 c1 f2 s2 n2 c2 cs1 g1 e1 cs2 g2 e2
    cases hs
    refine ⟨?_, fun _ => rfl⟩
    have h1 : sliceB ⟨cs1, g1, e1, true⟩ s1 f1 n1 = true := hp (sliceB ⟨cs1, g1, e1, true⟩ s1 f1 n1, true) (List.Mem.head _)
    have h2 : sliceB ⟨cs2, g2, e2, true⟩ s2 f2 n2 = true := hp (sliceB ⟨cs2, g2, e2, true⟩ s2 f2 n2, true) (List.Mem.tail _ (List.Mem.head _))
    by_cases hn : n1 = n2
    · have hb : Nat.beq n1 n2 = true := by subst hn; exact Nat.beq_refl _
      rw [hb, Bool.true_and]
      have hlen : ((n1 : Int) != (n2 : Int)) = false := by simp [hn]
      have hpre : Held (pre8 f1 s1 n1 f2 s2 n2 ⟨cs1, g1, e1, true⟩ ⟨cs2, g2, e2, true⟩ 0) := held_cons rfl (held_cons h1 (held_cons h2 (held_one (by simpa using hn))))
      cases he : eqB (cut ⟨cs1, g1, e1, true⟩ f1 n1) (cut ⟨cs2, g2, e2, true⟩ f2 n2) with
      | true => exact acalls_of_evFU (ovStd_ok _ _) nilC mix Tryd.func8 (same8_ok M) (runSame8 M f1 s1 n1 c1 f2 s2 n2 c2 e1 e2 cs1 cs2 g1 g2) (held_cons hlen (held_cons he hpre))
      | false => exact acalls_of_evFU (ovStd_ok _ _) nilC mix Tryd.func8 (other8_ok M) (runOther8 M f1 s1 n1 c1 f2 s2 n2 c2 e1 e2 cs1 cs2 g1 g2) (held_cons hlen (held_cons he hpre))
    · have hb : Nat.beq n1 n2 = false := by rw [Bool.eq_false_iff]; exact fun h => hn (Nat.eq_of_beq_eq_true h)
      rw [hb, Bool.false_and]
      exact acalls_of_evFU (ovStd_ok _ _) nilC mix Tryd.func8 (hooksOk_nil _) (runLen8 M f1 s1 n1 c1 f2 s2 n2 c2 e1 e2 cs1 cs2 g1 g2) (held_one (by simp; omega))
  · cases hs
    exact ⟨acalls_of_evFU (ovStd_ok _ _) nilC mix Tryd.func8 (hooksOk_nil _) (runNil8 M) held_nil, fun _ => rfl⟩
  · cases hs


/-! ### markByteS -/
noncomputable def loop11 : Code := loopOf 0 (Tryd.f11.body.getD .skip)
set_option maxRecDepth 100000 in
theorem occ11 : occ 0 (Tryd.f11.body.getD .skip) = [.loop loop11] := by kernel_rfl

set_option maxRecDepth 100000 in
theorem step11 (M : Mem) (f1 s1 n1 c1 : Nat) (cs : List Value) (g : Bool) (i : Nat) (k : Int) (z : Nat → Value) :
   viewU [0, 1, 5] (evU Tryd.prog M (ovStd Tryd.prog M) [16] [] [] [9] 200 loop11
     ⟨mkT 20 [0, 1, 5] [.slice (some ⟨0, f1, some s1⟩) n1 c1, .int .i64 (cnt64 k i), .int .i64 (ctr i)] z, [some ⟨markC cs f1 k i, g, 1, true⟩]⟩ [true])
   = some (.normal, [.slice (some ⟨0, f1, some s1⟩) n1 c1, .int .i64 (cnt64 k (i + 1)), .int .i64 (ctr (i + 1))], [some ⟨markC cs f1 k (i + 1), g, 1, true⟩], 20,
      [(decide (ctr i < (n1 : Int)), true), (inB (ctr i) n1, true), (stB ⟨markC cs f1 k i, g, 1, true⟩ s1 (f1 + (ctr i).toNat * 1) 1, true)]) := by kernel_rfl

set_option maxRecDepth 100000 in
theorem last11 (M : Mem) (u1 : Option Addr) (n1 c1 : Nat) (H : AHeap) (k k' : Int) (z : Nat → Value) :
   viewU [1] (evU Tryd.prog M (ovStd Tryd.prog M) [] [] [] [9] 200 loop11 ⟨mkT 20 [0, 1, 5] [.slice u1 n1 c1, .int .i64 k', .int .i64 k] z, H⟩ [false])
   = some (.exit 0, [.int .i64 k'], H, 20, [(decide (k < (n1 : Int)), false)]) := by kernel_rfl

def hook11 (vs : List Value) (H : AHeap) : Option (AExit × List Value × AHeap × Pins) :=
  match vs, H with
  | [.slice (some ⟨0, f1, some s1⟩) n1 c1, .int .i64 k, .int .i64 j], [some ⟨cs, g, 1, true⟩] => some (.normal, [.int .i64 (cnt64 k n1)], [some ⟨markC cs f1 k n1, g, 1, true⟩], [(decide (j = 0), true), (sliceB ⟨cs, g, 1, true⟩ s1 f1 n1, true)])
  | _, _ => none

theorem hook11_ok (M : Mem) : HooksOk Tryd.prog M [(0, mkHook Tryd.prog M 0 (.loop loop11) 20 [1] hook11 [0, 1, 5])] (Tryd.f11.body.getD .skip) := by
  refine hooks_one occ11 (mkHook_ok fun vs H0 e V H p z hf hp => ?_)
  unfold hook11 at hf
  split at hf
  · rename_i f1 s1 n1 c1 k j cs g
    cases hf
    have hj : j = 0 := by have := hp (decide (j = 0), true) (List.Mem.head _); simpa using this
    have h1 : sliceB ⟨cs, g, 1, true⟩ s1 f1 n1 = true := hp (sliceB ⟨cs, g, 1, true⟩ s1 f1 n1, true) (List.Mem.tail _ (List.Mem.head _))
    subst hj
    obtain ⟨a1, a2, hn, a4⟩ := sliceB_iff.1 h1
    obtain ⟨z', hz⟩ := loop_big (n := n1) (live := [0, 1, 5]) (V := fun i => [.slice (some ⟨0, f1, some s1⟩) n1 c1, .int .i64 (cnt64 k i), .int .i64 (ctr i)]) (H := fun i => [some ⟨markC cs f1 k i, g, 1, true⟩]) (e := .exit 0) (by simp)
      (fun i hi z => big_view (ovStd_ok _ _) nilC mix (hooksOk_nil _) (step11 M f1 s1 n1 c1 cs g i k z) (by
        rw [ctr_nat (by omega), Nat.mul_one]
        exact held_cons (by rw [decide_eq_true_eq]; exact ctr_lt (by omega) hn) (held_cons (inB_ctr (by omega) hn) (held_one (by simp only [stB, markC_length]; simp only at a1; simp; omega)))))
      (fun z => big_view (ovStd_ok _ _) nilC mix (hooksOk_nil _) (last11 M _ n1 c1 _ (ctr n1) _ z) (held_one (by rw [decide_eq_false_iff_not, ctr_eq (by omega)]; omega))) z
    exact ⟨z', block_big hz⟩
  · cases hf

set_option maxRecDepth 100000 in
theorem run11 (M : Mem) (f1 s1 n1 c1 : Nat) (cs : List Value) (g : Bool) (k : Int) :
   evFU Tryd.prog M (ovStd Tryd.prog M) [] [(0, mkHook Tryd.prog M 0 (.loop loop11) 20 [1] hook11 [0, 1, 5])] [] [] 200 Tryd.f11 [.slice (some ⟨0, f1, some s1⟩) n1 c1, .int .i64 k] [⟨cs, g, 1, true⟩] []
   = some ((.int .i64 (cnt64 k n1), [⟨markC cs f1 k n1, g, 1, true⟩], []), [(decide ((0 : Int) = 0), true), (sliceB ⟨cs, g, 1, true⟩ s1 f1 n1, true)]) := by kernel_rfl
set_option maxRecDepth 100000 in
theorem runNil11 (M : Mem) (k : Int) : evFU Tryd.prog M (ovStd Tryd.prog M) [] [] [] [] 200 Tryd.f11 [.slice none 0 0, .int .i64 k] [] [] = some ((.int .i64 k, [], []), []) := by kernel_rfl

/-- markByteS at a slice that lies in an object, or at an empty one. -/
def markSum11 : Sum :=
  { f := 11, ro := false
    S := fun args os => match args, os with
      | [.slice (some ⟨0, f1, some s1⟩) n1 c1, .int .i64 k], [⟨cs, g, 1, true⟩] => some (.int .i64 (cnt64 k n1), [⟨markC cs f1 k n1, g, 1, true⟩], [])
      | [.slice none 0 0, .int .i64 k], [] => some (.int .i64 k, [], [])
      | _, _ => none
    C := fun args os => match args, os with
      | [.slice (some ⟨0, f1, some s1⟩) n1 c1, _], [o] => [(sliceB o s1 f1 n1, true)]
      | _, _ => [] }

theorem markSum11_sound (M : Mem) : markSum11.SoundC Tryd.prog M := by
  refine sumC_sound Tryd.func11 (by kernel_rfl) (by kernel_rfl) fun args os v os' ns hs hp => ?_
  simp only [markSum11] at hs hp ⊢
  split at hs
  · rename_i f1 s1 n1 c1 k cs g
    cases hs
    have h1 : sliceB ⟨cs, g, 1, true⟩ s1 f1 n1 = true := hp (sliceB ⟨cs, g, 1, true⟩ s1 f1 n1, true) (List.Mem.head _)
    exact ⟨acalls_of_evFU (ovStd_ok _ _) nilC mix Tryd.func11 (hook11_ok M) (run11 M f1 s1 n1 c1 cs g k) (held_cons (by simp) (held_one h1)), fun h => by cases h⟩
  · cases hs
    exact ⟨acalls_of_evFU (ovStd_ok _ _) nilC mix Tryd.func11 (hooksOk_nil _) (runNil11 M _) held_nil, fun h => by cases h⟩
  · cases hs


/-! ### heldByteS -/
noncomputable def loop12 : Code := loopOf 0 (Tryd.f12.body.getD .skip)
set_option maxRecDepth 100000 in
theorem occ12 : occ 0 (Tryd.f12.body.getD .skip) = [.loop loop12] := by kernel_rfl

set_option maxRecDepth 100000 in
theorem step12 (M : Mem) (f1 s1 n1 c1 : Nat) (o : AObj) (i : Nat) (k : Int) (z : Nat → Value) :
   viewU [0, 1, 5] (evU Tryd.prog M (ovStd Tryd.prog M) [14, 15] [] [] [9, 18] 200 loop12
     ⟨mkT 22 [0, 1, 5] [.slice (some ⟨0, f1, some s1⟩) n1 c1, .int .i64 (cnt64 k i), .int .i64 (ctr i)] z, [some o]⟩ [true, false])
   = some (.normal, [.slice (some ⟨0, f1, some s1⟩) n1 c1, .int .i64 (cnt64 k (i + 1)), .int .i64 (ctr (i + 1))], [some o], 22,
      [(decide (ctr i < (n1 : Int)), true), (inB (ctr i) n1, true), (ldB .u8 o s1 (f1 + (ctr i).toNat * 1), true), (vint (atC o.cells (f1 + (ctr i).toNat * 1)) != IntKind.wrap .u8 (cnt64 k i), false)]) := by kernel_rfl

set_option maxRecDepth 100000 in
theorem last12 (M : Mem) (u1 : Option Addr) (n1 c1 : Nat) (H : AHeap) (k k' : Int) (z : Nat → Value) :
   viewU [1] (evU Tryd.prog M (ovStd Tryd.prog M) [] [] [] [9] 200 loop12 ⟨mkT 22 [0, 1, 5] [.slice u1 n1 c1, .int .i64 k', .int .i64 k] z, H⟩ [false])
   = some (.exit 0, [.int .i64 k'], H, 22, [(decide (k < (n1 : Int)), false)]) := by kernel_rfl

def hook12 (vs : List Value) (H : AHeap) : Option (AExit × List Value × AHeap × Pins) :=
  match vs, H with
  | [.slice (some ⟨0, f1, some s1⟩) n1 c1, .int .i64 k, .int .i64 j], [some o] => some (.normal, [.int .i64 (cnt64 k n1)], [some o], [(decide (j = 0), true), (sliceB o s1 f1 n1, true), (heldC o f1 n1 k, true)])
  | _, _ => none

theorem hook12_ok (M : Mem) : HooksOk Tryd.prog M [(0, mkHook Tryd.prog M 0 (.loop loop12) 22 [1] hook12 [0, 1, 5])] (Tryd.f12.body.getD .skip) := by
  refine hooks_one occ12 (mkHook_ok fun vs H0 e V H p z hf hp => ?_)
  unfold hook12 at hf
  split at hf
  · rename_i f1 s1 n1 c1 k j o
    cases hf
    have hj : j = 0 := by have := hp (decide (j = 0), true) (List.Mem.head _); simpa using this
    have h1 : sliceB o s1 f1 n1 = true := hp (sliceB o s1 f1 n1, true) (List.Mem.tail _ (List.Mem.head _))
    have h2 : heldC o f1 n1 k = true := hp (heldC o f1 n1 k, true) (List.Mem.tail _ (List.Mem.tail _ (List.Mem.head _)))
    subst hj
    obtain ⟨a1, a2, hn, a4⟩ := sliceB_iff.1 h1
    obtain ⟨z', hz⟩ := loop_big (n := n1) (live := [0, 1, 5]) (V := fun i => [.slice (some ⟨0, f1, some s1⟩) n1 c1, .int .i64 (cnt64 k i), .int .i64 (ctr i)]) (H := fun i => [some o]) (e := .exit 0) (by simp)
      (fun i hi z => big_view (ovStd_ok _ _) nilC mix (hooksOk_nil _) (step12 M f1 s1 n1 c1 o i k z) (by
        rw [ctr_nat (by omega), Nat.mul_one]
        exact held_cons (by rw [decide_eq_true_eq]; exact ctr_lt (by omega) hn) (held_cons (inB_ctr (by omega) hn) (held_cons (sliceB_at h1 hi) (held_one (by rw [heldC_at h2 hi]; simp))))))
      (fun z => big_view (ovStd_ok _ _) nilC mix (hooksOk_nil _) (last12 M _ n1 c1 _ (ctr n1) _ z) (held_one (by rw [decide_eq_false_iff_not, ctr_eq (by omega)]; omega))) z
    exact ⟨z', block_big hz⟩
  · cases hf

set_option maxRecDepth 100000 in
theorem run12 (M : Mem) (f1 s1 n1 c1 e1 : Nat) (cs : List Value) (g : Bool) (k : Int) :
   evFU Tryd.prog M (ovStd Tryd.prog M) [] [(0, mkHook Tryd.prog M 0 (.loop loop12) 22 [1] hook12 [0, 1, 5])] [] [] 200 Tryd.f12 [.slice (some ⟨0, f1, some s1⟩) n1 c1, .int .i64 k] [⟨cs, g, e1, true⟩] []
   = some ((.int .i64 (cnt64 k n1), [⟨cs, g, e1, true⟩], []), [(decide ((0 : Int) = 0), true), (sliceB ⟨cs, g, e1, true⟩ s1 f1 n1, true), (heldC ⟨cs, g, e1, true⟩ f1 n1 k, true)]) := by kernel_rfl
set_option maxRecDepth 100000 in
theorem runNil12 (M : Mem) (k : Int) : evFU Tryd.prog M (ovStd Tryd.prog M) [] [] [] [] 200 Tryd.f12 [.slice none 0 0, .int .i64 k] [] [] = some ((.int .i64 k, [], []), []) := by kernel_rfl

/-- heldByteS at a slice that lies in an object and bears the marks, or at an empty one. -/
def heldSum12 : Sum :=
  { f := 12, ro := true
    S := fun args os => match args, os with
      | [.slice (some ⟨0, f1, some s1⟩) n1 c1, .int .i64 k], [⟨cs, g, e1, true⟩] => some (.int .i64 (cnt64 k n1), [⟨cs, g, e1, true⟩], [])
      | [.slice none 0 0, .int .i64 k], [] => some (.int .i64 k, [], [])
      | _, _ => none
    C := fun args os => match args, os with
      | [.slice (some ⟨0, f1, some s1⟩) n1 c1, .int .i64 k], [o] => [(sliceB o s1 f1 n1, true), (heldC o f1 n1 k, true)]
      | _, _ => [] }

theorem heldSum12_sound (M : Mem) : heldSum12.SoundC Tryd.prog M := by
  refine sumC_sound Tryd.func12 (by kernel_rfl) (by kernel_rfl) fun args os v os' ns hs hp => ?_
  simp only [heldSum12] at hs hp ⊢
  split at hs
  · rename_i f1 s1 n1 c1 k cs g e1
    cases hs
    have h1 : sliceB ⟨cs, g, e1, true⟩ s1 f1 n1 = true := hp (sliceB ⟨cs, g, e1, true⟩ s1 f1 n1, true) (List.Mem.head _)
    have h2 : heldC ⟨cs, g, e1, true⟩ f1 n1 k = true := hp (heldC ⟨cs, g, e1, true⟩ f1 n1 k, true) (List.Mem.tail _ (List.Mem.head _))
    exact ⟨acalls_of_evFU (ovStd_ok _ _) nilC mix Tryd.func12 (hook12_ok M) (run12 M f1 s1 n1 c1 e1 cs g k) (held_cons (by simp) (held_cons h1 (held_one h2))), fun _ => rfl⟩
  · cases hs
    exact ⟨acalls_of_evFU (ovStd_ok _ _) nilC mix Tryd.func12 (hooksOk_nil _) (runNil12 M _) held_nil, fun _ => rfl⟩
  · cases hs

end Go.Proofs.YtfkdcpinajnbfaaDoor
