/- Facts on this program: how its loops over slices of bytes compare.
   Conditions: none. -/
import Derived.Test.YthflpgckojnbmaaDoorAbC
import Derived.Test.YthflpgckojnbmaaDoorBase
open Go.Ab
set_option linter.unusedVariables false
set_option linter.unusedSimpArgs false
namespace Go.Proofs.YthflpgckojnbmaaDoor

/-! ### eqByteS -/
noncomputable def loop10 : Code := loopOf 0 (Tryd.f10.body.getD .skip)
set_option maxRecDepth 100000 in
theorem occ10 : occ 0 (Tryd.f10.body.getD .skip) = [.loop loop10] := by kernel_rfl

set_option maxRecDepth 100000 in
theorem step10 (M : Mem) (f1 s1 n1 c1 f2 s2 n2 c2 : Nat) (o1 o2 : AObj) (i : Nat) (z : Nat → Value) :
   viewU [0, 1, 5] (evU Tryd.prog M (ovStd Tryd.prog M) [19, 20, 23, 24] [] [] [14, 25] 200 loop10
     ⟨mkT 26 [0, 1, 5] [.slice (some ⟨0, f1, some s1⟩) n1 c1, .slice (some ⟨1, f2, some s2⟩) n2 c2, .int .i64 (ctr i)] z, [some o1, some o2]⟩ [true, false])
   = some (.normal, [.slice (some ⟨0, f1, some s1⟩) n1 c1, .slice (some ⟨1, f2, some s2⟩) n2 c2, .int .i64 (ctr (i + 1))], [some o1, some o2], 26,
      [(decide (ctr i < (n1 : Int)), true), (inB (ctr i) n1, true), (ldB .u8 o1 s1 (f1 + (ctr i).toNat * 1), true), (inB (ctr i) n2, true), (ldB .u8 o2 s2 (f2 + (ctr i).toNat * 1), true),
        (vint (atC o1.cells (f1 + (ctr i).toNat * 1)) != vint (atC o2.cells (f2 + (ctr i).toNat * 1)), false)]) := by kernel_rfl

set_option maxRecDepth 100000 in
theorem diff10 (M : Mem) (f1 s1 n1 c1 f2 s2 n2 c2 : Nat) (o1 o2 : AObj) (i : Nat) (z : Nat → Value) :
   viewU [4] (evU Tryd.prog M (ovStd Tryd.prog M) [19, 20, 23, 24] [] [] [14, 25] 200 loop10
     ⟨mkT 26 [0, 1, 5] [.slice (some ⟨0, f1, some s1⟩) n1 c1, .slice (some ⟨1, f2, some s2⟩) n2 c2, .int .i64 (ctr i)] z, [some o1, some o2]⟩ [true, true])
   = some (.ret, [.bool false], [some o1, some o2], 26,
      [(decide (ctr i < (n1 : Int)), true), (inB (ctr i) n1, true), (ldB .u8 o1 s1 (f1 + (ctr i).toNat * 1), true), (inB (ctr i) n2, true), (ldB .u8 o2 s2 (f2 + (ctr i).toNat * 1), true),
        (vint (atC o1.cells (f1 + (ctr i).toNat * 1)) != vint (atC o2.cells (f2 + (ctr i).toNat * 1)), true)]) := by kernel_rfl

set_option maxRecDepth 100000 in
theorem last10 (M : Mem) (u1 u2 : Option Addr) (n1 c1 n2 c2 : Nat) (H : AHeap) (k : Int) (z : Nat → Value) :
   viewU [] (evU Tryd.prog M (ovStd Tryd.prog M) [] [] [] [14] 200 loop10 ⟨mkT 26 [0, 1, 5] [.slice u1 n1 c1, .slice u2 n2 c2, .int .i64 k] z, H⟩ [false])
   = some (.exit 0, [], H, 26, [(decide (k < (n1 : Int)), false)]) := by kernel_rfl

/-- Both slices right, as long as one another, the loop's number at 0. -/
def pre10 (f1 s1 n1 f2 s2 n2 : Nat) (o1 o2 : AObj) (k : Int) : Pins := [(decide (k = 0), true), (sliceB o1 s1 f1 n1, true), (sliceB o2 s2 f2 n2, true), (decide (n1 = n2), true)]

def same10 (vs : List Value) (H : AHeap) : Option (AExit × List Value × AHeap × Pins) :=
  match vs, H with
  | [.slice (some ⟨0, f1, some s1⟩) n1 c1, .slice (some ⟨1, f2, some s2⟩) n2 c2, .int .i64 k], [some o1, some o2] => some (.normal, [], [some o1, some o2], (eqB (cut o1 f1 n1) (cut o2 f2 n2), true) :: pre10 f1 s1 n1 f2 s2 n2 o1 o2 k)
  | _, _ => none

def other10 (vs : List Value) (H : AHeap) : Option (AExit × List Value × AHeap × Pins) :=
  match vs, H with
  | [.slice (some ⟨0, f1, some s1⟩) n1 c1, .slice (some ⟨1, f2, some s2⟩) n2 c2, .int .i64 k], [some o1, some o2] => some (.ret, [.bool false], [some o1, some o2], (eqB (cut o1 f1 n1) (cut o2 f2 n2), false) :: pre10 f1 s1 n1 f2 s2 n2 o1 o2 k)
  | _, _ => none

theorem pre10_held {f1 s1 n1 f2 s2 n2 : Nat} {o1 o2 : AObj} {k : Int} {b c : Bool} (h : Held ((b, c) :: pre10 f1 s1 n1 f2 s2 n2 o1 o2 k)) : b = c ∧ k = 0 ∧ sliceB o1 s1 f1 n1 = true ∧ sliceB o2 s2 f2 n2 = true ∧ n1 = n2 := by
  refine ⟨h (b, c) (List.Mem.head _), by have := h (decide (k = 0), true) (by simp [pre10]); simpa using this, h (sliceB o1 s1 f1 n1, true) (by simp [pre10]), h (sliceB o2 s2 f2 n2, true) (by simp [pre10]), by have := h (decide (n1 = n2), true) (by simp [pre10]); simpa using this⟩

theorem rounds10 (M : Mem) {f1 s1 n c1 f2 s2 c2 : Nat} {o1 o2 : AObj} (h1 : sliceB o1 s1 f1 n = true) (h2 : sliceB o2 s2 f2 n = true) {m : Nat} (hm : m ≤ n) (he : ∀ i, i < m → vint (atC o1.cells (f1 + i)) = vint (atC o2.cells (f2 + i))) :
    ∀ i, i < m → ∀ z, ∃ z', Big Tryd.prog M loop10 ⟨mkT 26 [0, 1, 5] [.slice (some ⟨0, f1, some s1⟩) n c1, .slice (some ⟨1, f2, some s2⟩) n c2, .int .i64 (ctr i)] z, [some o1, some o2]⟩ .normal
      ⟨mkT 26 [0, 1, 5] [.slice (some ⟨0, f1, some s1⟩) n c1, .slice (some ⟨1, f2, some s2⟩) n c2, .int .i64 (ctr (i + 1))] z', [some o1, some o2]⟩ := by
  intro i hi z
  have hn := (sliceB_iff.1 h1).2.2.1
  refine big_view (ovStd_ok _ _) nilC mix (hooksOk_nil _) (step10 M f1 s1 n c1 f2 s2 n c2 o1 o2 i z) ?_
  rw [ctr_nat (by omega), Nat.mul_one]
  exact held_cons (by rw [decide_eq_true_eq]; exact ctr_lt (by omega) hn) (held_cons (inB_ctr (by omega) hn) (held_cons (sliceB_at h1 (by omega)) (held_cons (inB_ctr (by omega) hn) (held_cons (sliceB_at h2 (by omega)) (held_one (by rw [he i hi]; simp))))))

theorem same10_ok (M : Mem) : HooksOk Tryd.prog M [(0, mkHook Tryd.prog M 0 (.loop loop10) 26 [] same10 [0, 1, 5])] (Tryd.f10.body.getD .skip) := by
  refine hooks_one occ10 (mkHook_ok fun vs H0 e V H p z hf hp => ?_)
  unfold same10 at hf
  split at hf
  · rename_i f1 s1 n1 c1 f2 s2 n2 c2 k o1 o2
    cases hf
    obtain ⟨he, rfl, h1, h2, rfl⟩ := pre10_held hp
    obtain ⟨a1, a2, hn, a4⟩ := sliceB_iff.1 h1
    obtain ⟨b1, b2, _, b4⟩ := sliceB_iff.1 h2
    have l1 : (cut o1 f1 n1).length = n1 := cut_length (by omega)
    have l2 : (cut o2 f2 n1).length = n1 := cut_length (by omega)
    have hall := (eqB_iff a4 b4 (by omega)).1 he
    obtain ⟨z', hz⟩ := loop_big (n := n1) (e := .exit 0) (by simp) (rounds10 M (c1 := c1) (c2 := c2) h1 h2 (Nat.le_refl _) fun i hi => by
        have := hall i (by omega)
        rwa [atC_cut hi, atC_cut hi] at this)
      (fun z => big_view (ovStd_ok _ _) nilC mix (hooksOk_nil _) (last10 M _ _ n1 c1 n1 c2 _ (ctr n1) z) (held_one (by rw [decide_eq_false_iff_not, ctr_eq (by omega)]; omega))) z
    exact ⟨z', block_big hz⟩
  · cases hf

theorem other10_ok (M : Mem) : HooksOk Tryd.prog M [(0, mkHook Tryd.prog M 0 (.loop loop10) 26 [4] other10 [0, 1, 5])] (Tryd.f10.body.getD .skip) := by
  refine hooks_one occ10 (mkHook_ok fun vs H0 e V H p z hf hp => ?_)
  unfold other10 at hf
  split at hf
  · rename_i f1 s1 n1 c1 f2 s2 n2 c2 k o1 o2
    cases hf
    obtain ⟨he, rfl, h1, h2, rfl⟩ := pre10_held hp
    obtain ⟨a1, a2, hn, a4⟩ := sliceB_iff.1 h1
    obtain ⟨b1, b2, _, b4⟩ := sliceB_iff.1 h2
    have l1 : (cut o1 f1 n1).length = n1 := cut_length (by omega)
    have l2 : (cut o2 f2 n1).length = n1 := cut_length (by omega)
    have hno : ¬ ∀ i, i < n1 → vint (atC o1.cells (f1 + i)) = vint (atC o2.cells (f2 + i)) := fun hall => by
      have := (eqB_iff a4 b4 (by omega)).2 fun i hi => by rw [l1] at hi; rw [atC_cut hi, atC_cut hi]; exact hall i hi
      rw [he] at this; cases this
    obtain ⟨m, hm, e1, e2⟩ := first_diff hno
    obtain ⟨z', hz⟩ := loop_big (n := m) (e := .ret) (by simp) (rounds10 M (c1 := c1) (c2 := c2) h1 h2 (Nat.le_of_lt hm) e1)
      (fun z => big_view (ovStd_ok _ _) nilC mix (hooksOk_nil _) (diff10 M f1 s1 n1 c1 f2 s2 n1 c2 o1 o2 m z) (by
        rw [ctr_nat (by omega), Nat.mul_one]
        exact held_cons (by rw [decide_eq_true_eq]; exact ctr_lt (by omega) hn) (held_cons (inB_ctr (by omega) hn) (held_cons (sliceB_at h1 (by omega)) (held_cons (inB_ctr (by omega) hn) (held_cons (sliceB_at h2 (by omega)) (held_one (by simpa using e2)))))))) z
    exact ⟨z', block_big hz⟩
  · cases hf

set_option maxRecDepth 100000 in
theorem runSame10 (M : Mem) (f1 s1 n1 c1 f2 s2 n2 c2 e1 e2 : Nat) (cs1 cs2 : List Value) (g1 g2 : Bool) :
   evFU Tryd.prog M (ovStd Tryd.prog M) [] [(0, mkHook Tryd.prog M 0 (.loop loop10) 26 [] same10 [0, 1, 5])] [] [10] 200 Tryd.f10 [.slice (some ⟨0, f1, some s1⟩) n1 c1, .slice (some ⟨1, f2, some s2⟩) n2 c2] [⟨cs1, g1, e1, true⟩, ⟨cs2, g2, e2, true⟩] [false]
   = some ((.bool true, [⟨cs1, g1, e1, true⟩, ⟨cs2, g2, e2, true⟩], []), ((n1 : Int) != (n2 : Int), false) :: (eqB (cut ⟨cs1, g1, e1, true⟩ f1 n1) (cut ⟨cs2, g2, e2, true⟩ f2 n2), true) :: pre10 f1 s1 n1 f2 s2 n2 ⟨cs1, g1, e1, true⟩ ⟨cs2, g2, e2, true⟩ 0) := by kernel_rfl
set_option maxRecDepth 100000 in
theorem runOther10 (M : Mem) (f1 s1 n1 c1 f2 s2 n2 c2 e1 e2 : Nat) (cs1 cs2 : List Value) (g1 g2 : Bool) :
   evFU Tryd.prog M (ovStd Tryd.prog M) [] [(0, mkHook Tryd.prog M 0 (.loop loop10) 26 [4] other10 [0, 1, 5])] [] [10] 200 Tryd.f10 [.slice (some ⟨0, f1, some s1⟩) n1 c1, .slice (some ⟨1, f2, some s2⟩) n2 c2] [⟨cs1, g1, e1, true⟩, ⟨cs2, g2, e2, true⟩] [false]
   = some ((.bool false, [⟨cs1, g1, e1, true⟩, ⟨cs2, g2, e2, true⟩], []), ((n1 : Int) != (n2 : Int), false) :: (eqB (cut ⟨cs1, g1, e1, true⟩ f1 n1) (cut ⟨cs2, g2, e2, true⟩ f2 n2), false) :: pre10 f1 s1 n1 f2 s2 n2 ⟨cs1, g1, e1, true⟩ ⟨cs2, g2, e2, true⟩ 0) := by kernel_rfl
set_option maxRecDepth 100000 in
theorem runLen10 (M : Mem) (f1 s1 n1 c1 f2 s2 n2 c2 e1 e2 : Nat) (cs1 cs2 : List Value) (g1 g2 : Bool) :
   evFU Tryd.prog M (ovStd Tryd.prog M) [] [] [] [10] 200 Tryd.f10 [.slice (some ⟨0, f1, some s1⟩) n1 c1, .slice (some ⟨1, f2, some s2⟩) n2 c2] [⟨cs1, g1, e1, true⟩, ⟨cs2, g2, e2, true⟩] [true]
   = some ((.bool false, [⟨cs1, g1, e1, true⟩, ⟨cs2, g2, e2, true⟩], []), [((n1 : Int) != (n2 : Int), true)]) := by kernel_rfl
set_option maxRecDepth 100000 in
theorem runNil10 (M : Mem) : evFU Tryd.prog M (ovStd Tryd.prog M) [] [] [] [] 200 Tryd.f10 [.slice none 0 0, .slice none 0 0] [] [] = some ((.bool true, [], []), []) := by kernel_rfl

/-- eqByteS at two slices that lie in two objects, or at two empty ones. -/
def eqsSum10 : Sum :=
  { f := 10, ro := true
    S := fun args os => match args, os with
      | [.slice (some ⟨0, f1, some s1⟩) n1 c1, .slice (some ⟨1, f2, some s2⟩) n2 c2], [⟨cs1, g1, e1, true⟩, ⟨cs2, g2, e2, true⟩] => some (.bool (Nat.beq n1 n2 && eqB (cut ⟨cs1, g1, e1, true⟩ f1 n1) (cut ⟨cs2, g2, e2, true⟩ f2 n2)), [⟨cs1, g1, e1, true⟩, ⟨cs2, g2, e2, true⟩], [])
      | [.slice none 0 0, .slice none 0 0], [] => some (.bool true, [], [])
      | _, _ => none
    C := fun args os => match args, os with
      | [.slice (some ⟨0, f1, some s1⟩) n1 c1, .slice (some ⟨1, f2, some s2⟩) n2 c2], [o1, o2] => [(sliceB o1 s1 f1 n1, true), (sliceB o2 s2 f2 n2, true)]
      | _, _ => [] }

theorem eqsSum10_sound (M : Mem) : eqsSum10.SoundC Tryd.prog M := by
  refine sumC_sound Tryd.func10 (by kernel_rfl) (by kernel_rfl) fun args os v os' ns hs hp => ?_
  simp only [eqsSum10] at hs hp ⊢
  split at hs
  · rename_i f1 s1 n1 c1 f2 s2 n2 c2 cs1 g1 e1 cs2 g2 e2
    cases hs
    refine ⟨?_, fun _ => rfl⟩
    have h1 : sliceB ⟨cs1, g1, e1, true⟩ s1 f1 n1 = true := hp (sliceB ⟨cs1, g1, e1, true⟩ s1 f1 n1, true) (List.Mem.head _)
    have h2 : sliceB ⟨cs2, g2, e2, true⟩ s2 f2 n2 = true := hp (sliceB ⟨cs2, g2, e2, true⟩ s2 f2 n2, true) (List.Mem.tail _ (List.Mem.head _))
    by_cases hn : n1 = n2
    · have hb : Nat.beq n1 n2 = true := by subst hn; exact Nat.beq_refl _
      rw [hb, Bool.true_and]
      have hlen : ((n1 : Int) != (n2 : Int)) = false := by simp [hn]
      have hpre : Held (pre10 f1 s1 n1 f2 s2 n2 ⟨cs1, g1, e1, true⟩ ⟨cs2, g2, e2, true⟩ 0) := held_cons rfl (held_cons h1 (held_cons h2 (held_one (by simpa using hn))))
      cases he : eqB (cut ⟨cs1, g1, e1, true⟩ f1 n1) (cut ⟨cs2, g2, e2, true⟩ f2 n2) with
      | true => exact acalls_of_evFU (ovStd_ok _ _) nilC mix Tryd.func10 (same10_ok M) (runSame10 M f1 s1 n1 c1 f2 s2 n2 c2 e1 e2 cs1 cs2 g1 g2) (held_cons hlen (held_cons he hpre))
      | false => exact acalls_of_evFU (ovStd_ok _ _) nilC mix Tryd.func10 (other10_ok M) (runOther10 M f1 s1 n1 c1 f2 s2 n2 c2 e1 e2 cs1 cs2 g1 g2) (held_cons hlen (held_cons he hpre))
    · have hb : Nat.beq n1 n2 = false := by rw [Bool.eq_false_iff]; exact fun h => hn (Nat.eq_of_beq_eq_true h)
      rw [hb, Bool.false_and]
      exact acalls_of_evFU (ovStd_ok _ _) nilC mix Tryd.func10 (hooksOk_nil _) (runLen10 M f1 s1 n1 c1 f2 s2 n2 c2 e1 e2 cs1 cs2 g1 g2) (held_one (by simp; omega))
  · cases hs
    exact ⟨acalls_of_evFU (ovStd_ok _ _) nilC mix Tryd.func10 (hooksOk_nil _) (runNil10 M) held_nil, fun _ => rfl⟩
  · cases hs

end Go.Proofs.YthflpgckojnbmaaDoor
