/- The law FnExactPoly1305 returns true of every key and data, which read behind the call as before.
   Conditions: none. -/
import Derived.Test.YtgnbmjhljlbkhaaSFn
import Derived.Test.YtgnbmjhljlbkhaaToS
open Go.Ab Go.Num
set_option linter.unusedVariables false
set_option linter.unusedSimpArgs false
namespace Go.Proofs.Ytgnbmjhljlbkhaa

/-! ### eqByteS -/
noncomputable def loop9 : Code := loopOf 0 (Try.f9.body.getD .skip)
set_option maxRecDepth 100000 in
theorem occ9 : occ 0 (Try.f9.body.getD .skip) = [.loop loop9] := by kernel_rfl

set_option maxRecDepth 100000 in
theorem step9 (M : Mem) (f1 s1 n1 c1 f2 s2 n2 c2 : Nat) (o1 o2 : AObj) (i : Nat) (z : Nat → Value) :
   viewU [0, 1, 5] (evU Try.prog M (ovStd Try.prog M) [19, 20, 23, 24] [] [] [14, 25] 200 loop9
     ⟨mkT 26 [0, 1, 5] [.slice (some ⟨0, f1, some s1⟩) n1 c1, .slice (some ⟨1, f2, some s2⟩) n2 c2, .int .i64 (ctr i)] z, [some o1, some o2]⟩ [true, false])
   = some (.normal, [.slice (some ⟨0, f1, some s1⟩) n1 c1, .slice (some ⟨1, f2, some s2⟩) n2 c2, .int .i64 (ctr (i + 1))], [some o1, some o2], 26,
      [(decide (ctr i < (n1 : Int)), true), (inB (ctr i) n1, true), (ldB .u8 o1 s1 (f1 + (ctr i).toNat * 1), true), (inB (ctr i) n2, true), (ldB .u8 o2 s2 (f2 + (ctr i).toNat * 1), true),
        (vint (atC o1.cells (f1 + (ctr i).toNat * 1)) != vint (atC o2.cells (f2 + (ctr i).toNat * 1)), false)]) := by kernel_rfl

set_option maxRecDepth 100000 in
theorem diff9 (M : Mem) (f1 s1 n1 c1 f2 s2 n2 c2 : Nat) (o1 o2 : AObj) (i : Nat) (z : Nat → Value) :
   viewU [4] (evU Try.prog M (ovStd Try.prog M) [19, 20, 23, 24] [] [] [14, 25] 200 loop9
     ⟨mkT 26 [0, 1, 5] [.slice (some ⟨0, f1, some s1⟩) n1 c1, .slice (some ⟨1, f2, some s2⟩) n2 c2, .int .i64 (ctr i)] z, [some o1, some o2]⟩ [true, true])
   = some (.ret, [.bool false], [some o1, some o2], 26,
      [(decide (ctr i < (n1 : Int)), true), (inB (ctr i) n1, true), (ldB .u8 o1 s1 (f1 + (ctr i).toNat * 1), true), (inB (ctr i) n2, true), (ldB .u8 o2 s2 (f2 + (ctr i).toNat * 1), true),
        (vint (atC o1.cells (f1 + (ctr i).toNat * 1)) != vint (atC o2.cells (f2 + (ctr i).toNat * 1)), true)]) := by kernel_rfl

set_option maxRecDepth 100000 in
theorem last9 (M : Mem) (u1 u2 : Option Addr) (n1 c1 n2 c2 : Nat) (H : AHeap) (k : Int) (z : Nat → Value) :
   viewU [] (evU Try.prog M (ovStd Try.prog M) [] [] [] [14] 200 loop9 ⟨mkT 26 [0, 1, 5] [.slice u1 n1 c1, .slice u2 n2 c2, .int .i64 k] z, H⟩ [false])
   = some (.exit 0, [], H, 26, [(decide (k < (n1 : Int)), false)]) := by kernel_rfl

/-- Both slices right, as long as one another, the loop's number at 0. -/
def pre9 (f1 s1 n1 f2 s2 n2 : Nat) (o1 o2 : AObj) (k : Int) : Pins := [(decide (k = 0), true), (sliceB o1 s1 f1 n1, true), (sliceB o2 s2 f2 n2, true), (decide (n1 = n2), true)]

def same9 (vs : List Value) (H : AHeap) : Option (AExit × List Value × AHeap × Pins) :=
  match vs, H with
  | [.slice (some ⟨0, f1, some s1⟩) n1 c1, .slice (some ⟨1, f2, some s2⟩) n2 c2, .int .i64 k], [some o1, some o2] => some (.normal, [], [some o1, some o2], (eqB (cut o1 f1 n1) (cut o2 f2 n2), true) :: pre9 f1 s1 n1 f2 s2 n2 o1 o2 k)
  | _, _ => none

def other9 (vs : List Value) (H : AHeap) : Option (AExit × List Value × AHeap × Pins) :=
  match vs, H with
  | [.slice (some ⟨0, f1, some s1⟩) n1 c1, .slice (some ⟨1, f2, some s2⟩) n2 c2, .int .i64 k], [some o1, some o2] => some (.ret, [.bool false], [some o1, some o2], (eqB (cut o1 f1 n1) (cut o2 f2 n2), false) :: pre9 f1 s1 n1 f2 s2 n2 o1 o2 k)
  | _, _ => none

theorem pre9_held {f1 s1 n1 f2 s2 n2 : Nat} {o1 o2 : AObj} {k : Int} {b c : Bool} (h : Held ((b, c) :: pre9 f1 s1 n1 f2 s2 n2 o1 o2 k)) : b = c ∧ k = 0 ∧ sliceB o1 s1 f1 n1 = true ∧ sliceB o2 s2 f2 n2 = true ∧ n1 = n2 := by
  refine ⟨h (b, c) (List.Mem.head _), by have := h (decide (k = 0), true) (by simp [pre9]); simpa using this, h (sliceB o1 s1 f1 n1, true) (by simp [pre9]), h (sliceB o2 s2 f2 n2, true) (by simp [pre9]), by have := h (decide (n1 = n2), true) (by simp [pre9]); simpa using this⟩

theorem rounds9 (M : Mem) {f1 s1 n c1 f2 s2 c2 : Nat} {o1 o2 : AObj} (h1 : sliceB o1 s1 f1 n = true) (h2 : sliceB o2 s2 f2 n = true) {m : Nat} (hm : m ≤ n) (he : ∀ i, i < m → vint (atC o1.cells (f1 + i)) = vint (atC o2.cells (f2 + i))) :
    ∀ i, i < m → ∀ z, ∃ z', Big Try.prog M loop9 ⟨mkT 26 [0, 1, 5] [.slice (some ⟨0, f1, some s1⟩) n c1, .slice (some ⟨1, f2, some s2⟩) n c2, .int .i64 (ctr i)] z, [some o1, some o2]⟩ .normal
      ⟨mkT 26 [0, 1, 5] [.slice (some ⟨0, f1, some s1⟩) n c1, .slice (some ⟨1, f2, some s2⟩) n c2, .int .i64 (ctr (i + 1))] z', [some o1, some o2]⟩ := by
  intro i hi z
  have hn := (sliceB_iff.1 h1).2.2.1
  refine big_view (ovStd_ok _ _) nilC mix (hooksOk_nil _) (step9 M f1 s1 n c1 f2 s2 n c2 o1 o2 i z) ?_
  rw [ctr_nat (by omega), Nat.mul_one]
  exact held_cons (by rw [decide_eq_true_eq]; exact ctr_lt (by omega) hn) (held_cons (inB_ctr (by omega) hn) (held_cons (sliceB_at h1 (by omega)) (held_cons (inB_ctr (by omega) hn) (held_cons (sliceB_at h2 (by omega)) (held_one (by rw [he i hi]; simp))))))

theorem same9_ok (M : Mem) : HooksOk Try.prog M [(0, mkHook Try.prog M 0 (.loop loop9) 26 [] same9 [0, 1, 5])] (Try.f9.body.getD .skip) := by
  refine hooks_one occ9 (mkHook_ok fun vs H0 e V H p z hf hp => ?_)
  unfold same9 at hf
  split at hf
  · rename_i f1 s1 n1 c1 f2 s2 n2 c2 k o1 o2
    cases hf
    obtain ⟨he, rfl, h1, h2, rfl⟩ := pre9_held hp
    obtain ⟨a1, a2, hn, a4⟩ := sliceB_iff.1 h1
    obtain ⟨b1, b2, _, b4⟩ := sliceB_iff.1 h2
    have l1 : (cut o1 f1 n1).length = n1 := cut_length (by omega)
    have l2 : (cut o2 f2 n1).length = n1 := cut_length (by omega)
    have hall := (eqB_iff a4 b4 (by omega)).1 he
    obtain ⟨z', hz⟩ := loop_big (n := n1) (e := .exit 0) (by simp) (rounds9 M (c1 := c1) (c2 := c2) h1 h2 (Nat.le_refl _) fun i hi => by
        have := hall i (by omega)
        rwa [atC_cut hi, atC_cut hi] at this)
      (fun z => big_view (ovStd_ok _ _) nilC mix (hooksOk_nil _) (last9 M _ _ n1 c1 n1 c2 _ (ctr n1) z) (held_one (by rw [decide_eq_false_iff_not, ctr_eq (by omega)]; omega))) z
    exact ⟨z', block_big hz⟩
  · cases hf

theorem other9_ok (M : Mem) : HooksOk Try.prog M [(0, mkHook Try.prog M 0 (.loop loop9) 26 [4] other9 [0, 1, 5])] (Try.f9.body.getD .skip) := by
  refine hooks_one occ9 (mkHook_ok fun vs H0 e V H p z hf hp => ?_)
  unfold other9 at hf
  split at hf
  · rename_i f1 s1 n1 c1 f2 s2 n2 c2 k o1 o2
    cases hf
    obtain ⟨he, rfl, h1, h2, rfl⟩ := pre9_held hp
    obtain ⟨a1, a2, hn, a4⟩ := sliceB_iff.1 h1
    obtain ⟨b1, b2, _, b4⟩ := sliceB_iff.1 h2
    have l1 : (cut o1 f1 n1).length = n1 := cut_length (by omega)
    have l2 : (cut o2 f2 n1).length = n1 := cut_length (by omega)
    have hno : ¬ ∀ i, i < n1 → vint (atC o1.cells (f1 + i)) = vint (atC o2.cells (f2 + i)) := fun hall => by
      have := (eqB_iff a4 b4 (by omega)).2 fun i hi => by rw [l1] at hi; rw [atC_cut hi, atC_cut hi]; exact hall i hi
      rw [he] at this; cases this
    obtain ⟨m, hm, e1, e2⟩ := first_diff hno
    obtain ⟨z', hz⟩ := loop_big (n := m) (e := .ret) (by simp) (rounds9 M (c1 := c1) (c2 := c2) h1 h2 (Nat.le_of_lt hm) e1)
      (fun z => big_view (ovStd_ok _ _) nilC mix (hooksOk_nil _) (diff9 M f1 s1 n1 c1 f2 s2 n1 c2 o1 o2 m z) (by
        rw [ctr_nat (by omega), Nat.mul_one]
        exact held_cons (by rw [decide_eq_true_eq]; exact ctr_lt (by omega) hn) (held_cons (inB_ctr (by omega) hn) (held_cons (sliceB_at h1 (by omega)) (held_cons (inB_ctr (by omega) hn) (held_cons (sliceB_at h2 (by omega)) (held_one (by simpa using e2)))))))) z
    exact ⟨z', block_big hz⟩
  · cases hf

set_option maxRecDepth 100000 in
theorem runSame9 (M : Mem) (f1 s1 n1 c1 f2 s2 n2 c2 e1 e2 : Nat) (cs1 cs2 : List Value) (g1 g2 : Bool) :
   evFU Try.prog M (ovStd Try.prog M) [] [(0, mkHook Try.prog M 0 (.loop loop9) 26 [] same9 [0, 1, 5])] [] [10] 200 Try.f9 [.slice (some ⟨0, f1, some s1⟩) n1 c1, .slice (some ⟨1, f2, some s2⟩) n2 c2] [⟨cs1, g1, e1, true⟩, ⟨cs2, g2, e2, true⟩] [false]
   = some ((.bool true, [⟨cs1, g1, e1, true⟩, ⟨cs2, g2, e2, true⟩], []), ((n1 : Int) != (n2 : Int), false) :: (eqB (cut ⟨cs1, g1, e1, true⟩ f1 n1) (cut ⟨cs2, g2, e2, true⟩ f2 n2), true) :: pre9 f1 s1 n1 f2 s2 n2 ⟨cs1, g1, e1, true⟩ ⟨cs2, g2, e2, true⟩ 0) := by kernel_rfl
set_option maxRecDepth 100000 in
theorem runOther9 (M : Mem) (f1 s1 n1 c1 f2 s2 n2 c2 e1 e2 : Nat) (cs1 cs2 : List Value) (g1 g2 : Bool) :
   evFU Try.prog M (ovStd Try.prog M) [] [(0, mkHook Try.prog M 0 (.loop loop9) 26 [4] other9 [0, 1, 5])] [] [10] 200 Try.f9 [.slice (some ⟨0, f1, some s1⟩) n1 c1, .slice (some ⟨1, f2, some s2⟩) n2 c2] [⟨cs1, g1, e1, true⟩, ⟨cs2, g2, e2, true⟩] [false]
   = some ((.bool false, [⟨cs1, g1, e1, true⟩, ⟨cs2, g2, e2, true⟩], []), ((n1 : Int) != (n2 : Int), false) :: (eqB (cut ⟨cs1, g1, e1, true⟩ f1 n1) (cut ⟨cs2, g2, e2, true⟩ f2 n2), false) :: pre9 f1 s1 n1 f2 s2 n2 ⟨cs1, g1, e1, true⟩ ⟨cs2, g2, e2, true⟩ 0) := by kernel_rfl
set_option maxRecDepth 100000 in
theorem runLen9 (M : Mem) (f1 s1 n1 c1 f2 s2 n2 c2 e1 e2 : Nat) (cs1 cs2 : List Value) (g1 g2 : Bool) :
   evFU Try.prog M (ovStd Try.prog M) [] [] [] [10] 200 Try.f9 [.slice (some ⟨0, f1, some s1⟩) n1 c1, .slice (some ⟨1, f2, some s2⟩) n2 c2] [⟨cs1, g1, e1, true⟩, ⟨cs2, g2, e2, true⟩] [true]
   = some ((.bool false, [⟨cs1, g1, e1, true⟩, ⟨cs2, g2, e2, true⟩], []), [((n1 : Int) != (n2 : Int), true)]) := by kernel_rfl
set_option maxRecDepth 100000 in
theorem runNil9 (M : Mem) : evFU Try.prog M (ovStd Try.prog M) [] [] [] [] 200 Try.f9 [.slice none 0 0, .slice none 0 0] [] [] = some ((.bool true, [], []), []) := by kernel_rfl

/-- eqByteS at two slices that lie in two objects, or at two empty ones. -/
def eqsSum9 : Sum :=
  { f := 9, ro := true
    S := fun args os => match args, os with
      | [.slice (some ⟨0, f1, some s1⟩) n1 c1, .slice (some ⟨1, f2, some s2⟩) n2 c2], [⟨cs1, g1, e1, true⟩, ⟨cs2, g2, e2, true⟩] => some (.bool (Nat.beq n1 n2 && eqB (cut ⟨cs1, g1, e1, true⟩ f1 n1) (cut ⟨cs2, g2, e2, true⟩ f2 n2)), [⟨cs1, g1, e1, true⟩, ⟨cs2, g2, e2, true⟩], [])
      | [.slice none 0 0, .slice none 0 0], [] => some (.bool true, [], [])
      | _, _ => none
    C := fun args os => match args, os with
      | [.slice (some ⟨0, f1, some s1⟩) n1 c1, .slice (some ⟨1, f2, some s2⟩) n2 c2], [o1, o2] => [(sliceB o1 s1 f1 n1, true), (sliceB o2 s2 f2 n2, true)]
      | _, _ => [] }

theorem eqsSum9_sound (M : Mem) : eqsSum9.SoundC Try.prog M := by
  refine sumC_sound Try.func9 (by kernel_rfl) (by kernel_rfl) fun args os v os' ns hs hp => ?_
  simp only [eqsSum9] at hs hp ⊢
  split at hs
  · rename_i f1 s1 n1 c1 f2 s2 n2 c2 cs1 g1 e1 cs2 g2 e2
    cases hs
    refine ⟨?_, fun _ => rfl⟩
    have h1 : sliceB ⟨cs1, g1, e1, true⟩ s1 f1 n1 = true := hp (sliceB ⟨cs1, g1, e1, true⟩ s1 f1 n1, true) (List.Mem.head _)
    have h2 : sliceB ⟨cs2, g2, e2, true⟩ s2 f2 n2 = true := hp (sliceB ⟨cs2, g2, e2, true⟩ s2 f2 n2, true) (List.Mem.tail _ (List.Mem.head _))
    by_cases hn : n1 = n2
    · have hb : Nat.beq n1 n2 = true := by subst hn; exact Nat.beq_refl _
      rw [hb, Bool.true_and]
      have hlen : ((n1 : Int) != (n2 : Int)) = false := by simp [hn]
      have hpre : Held (pre9 f1 s1 n1 f2 s2 n2 ⟨cs1, g1, e1, true⟩ ⟨cs2, g2, e2, true⟩ 0) := held_cons rfl (held_cons h1 (held_cons h2 (held_one (by simpa using hn))))
      cases he : eqB (cut ⟨cs1, g1, e1, true⟩ f1 n1) (cut ⟨cs2, g2, e2, true⟩ f2 n2) with
      | true => exact acalls_of_evFU (ovStd_ok _ _) nilC mix Try.func9 (same9_ok M) (runSame9 M f1 s1 n1 c1 f2 s2 n2 c2 e1 e2 cs1 cs2 g1 g2) (held_cons hlen (held_cons he hpre))
      | false => exact acalls_of_evFU (ovStd_ok _ _) nilC mix Try.func9 (other9_ok M) (runOther9 M f1 s1 n1 c1 f2 s2 n2 c2 e1 e2 cs1 cs2 g1 g2) (held_cons hlen (held_cons he hpre))
    · have hb : Nat.beq n1 n2 = false := by rw [Bool.eq_false_iff]; exact fun h => hn (Nat.eq_of_beq_eq_true h)
      rw [hb, Bool.false_and]
      exact acalls_of_evFU (ovStd_ok _ _) nilC mix Try.func9 (hooksOk_nil _) (runLen9 M f1 s1 n1 c1 f2 s2 n2 c2 e1 e2 cs1 cs2 g1 g2) (held_one (by simp; omega))
  · cases hs
    exact ⟨acalls_of_evFU (ovStd_ok _ _) nilC mix Try.func9 (hooksOk_nil _) (runNil9 M) held_nil, fun _ => rfl⟩
  · cases hs


theorem eq16 (M : Mem) : (eqSum 8 16).Sound Try.prog M := eqSum_sound mix Try.func8 (by kernel_rfl) (by kernel_rfl) (sym := [16]) (fuel := 1000) (fun x y => by kernel_rfl)

def sameSum (f : FuncId) (n : Nat) : Sum :=
  { f := f, ro := true
    S := fun args os => match args, os with
      | [.agg ⟨A⟩], [] => if isB n A then some (.agg ⟨A⟩, [], []) else none
      | _, _ => none }
set_option maxRecDepth 100000 in
theorem r5 (M : Mem) (x : Nat → Int) : evFT Try.prog M (fns []) [] 1000 Try.f5 [.agg ⟨cellsI .u8 32 x⟩] [] = some (.agg ⟨cellsI .u8 32 x⟩, [], []) := by kernel_rfl
theorem same5 (M : Mem) : (sameSum 5 32).Sound Try.prog M := sum_sound Try.func5 (by kernel_rfl) (by kernel_rfl) fun args os v os' ns hs => by
  simp only [sameSum] at hs ⊢
  split at hs
  · rename_i A
    split at hs
    · rename_i hA
      cases hs
      have := acalls_of_evFT fns_nil mix Try.func5 (r5 M (wd A))
      rw [← isB_eq hA] at this
      exact ⟨this, fun _ => rfl⟩
    · cases hs
  · cases hs

noncomputable def L3 (M : Mem) : List Sum := [sameSum 5 32, toSum M 6, polySum 4, polySum 7, eqSum 8 16, eqsSum9]
theorem L3_sound (M : Mem) : ∀ s ∈ L3 M, s.SoundC Try.prog M := consC (same5 M).c (consC (toS_S M) (consC (spolyS M) (consC (polyS M) (consC (eq16 M).c (consC (eqsSum9_sound M) nilC)))))

def KC (k : Nat → Int) : List Value := cellsI .u8 32 k
def DC (M : Mem) (b off n : Nat) : List Value := cellsI .u8 n (roN M b off)
def TC (k : Nat → Int) (D : List Value) (n : Nat) : List Value := tagF (wd (KC k)) D 0 n
def lp (k : Nat → Int) (D : List Value) (n : Nat) : Pins := [(rngB (KC k), true), (dataB D n 0 n n, true)]

set_option maxRecDepth 100000 in
theorem r3l (M : Mem) (k : Nat → Int) (b off n c : Nat) : evFC Try.prog M (L3 M) [10, 25, 30] 1000 Try.f3 [.agg ⟨cellsI .u8 32 k⟩, .slice (some ⟨b, off, none⟩) n c] [] [true]
   = some ((.bool true, [], []), [(decide ((n : Int) > 1048576), true)]) := by kernel_rfl
set_option maxRecDepth 100000 in
theorem r3z (M : Mem) (k : Nat → Int) : evFC Try.prog M (L3 M) [25, 30] 1000 Try.f3 [.agg ⟨cellsI .u8 32 k⟩, .slice none 0 0] [] [false, false]
   = some ((.bool true, [], []), lp k [] 0 ++ lp k [] 0 ++ [(!eqB (TC k [] 0) (TC k [] 0), false), (sliceB ⟨[], true, 1, true⟩ 0 0 0, true), (sliceB ⟨[], true, 1, true⟩ 0 0 0, true), (!(Nat.beq 0 0 && eqB (cut ⟨[], true, 1, true⟩ 0 0) (cut ⟨[], true, 1, true⟩ 0 0)), false)]) := by kernel_rfl
set_option maxRecDepth 100000 in
theorem r3s (M : Mem) (k : Nat → Int) (b off n c : Nat) : evFC Try.prog M (L3 M) [10, 25, 30] 1000 Try.f3 [.agg ⟨cellsI .u8 32 k⟩, .slice (some ⟨b, off, none⟩) n c] [] [false, false, false]
   = some ((.bool true, [], []), [(decide ((n : Int) > 1048576), false), (roAll M b off n, true)] ++ lp k (DC M b off n) n ++ [(roAll M b off n, true)] ++ lp k (DC M b off n) n ++ [(!eqB (TC k (DC M b off n) n) (TC k (DC M b off n) n), false), (roAll M b off n, true),
      (sliceB ⟨DC M b off n, true, 1, true⟩ n 0 n, true), (sliceB ⟨DC M b off n, true, 1, true⟩ n 0 n, true), (!(Nat.beq n n && eqB (cut ⟨DC M b off n, true, 1, true⟩ 0 n) (cut ⟨DC M b off n, true, 1, true⟩ 0 n)), false)]) := by kernel_rfl

theorem k32 : flatK Try.prog 22 = some (List.replicate 32 (.int .u8)) := by kernel_rfl

theorem tag_self (k : Nat → Int) (D : List Value) (n : Nat) : (!eqB (TC k D n) (TC k D n)) = false := by
  have : ∀ x : Nat → Int, eqB (cellsI .u8 16 x) (cellsI .u8 16 x) = true := fun x => by
    have := eqB_self (k := .u8) ((List.range 16).map x)
    rw [List.map_map] at this
    exact this
  unfold TC tagF
  rw [this]
  rfl

theorem cut_cells {n : Nat} {x : Nat → Int} : cut ⟨cellsI .u8 n x, true, 1, true⟩ 0 n = cellsI .u8 n x := by
  apply List.ext_getElem (by rw [cut_length (by simp [cellsI]), cellsI_length])
  intro i h1 h2
  have hi : i < n := by rw [cellsI_length] at h2; exact h2
  have e := atC_cut (o := ⟨cellsI .u8 n x, true, 1, true⟩) (f := 0) (n := n) hi
  simp only [atC, List.getElem?_eq_getElem h1, Option.getD_some] at e
  rw [e, Nat.zero_add, List.getElem?_eq_getElem h2]
  rfl

theorem all_cells {n : Nat} {x : Nat → Int} : (cellsI .u8 n x).all (isI .u8) = true := by
  rw [List.all_eq_true]
  intro v hv
  simp only [cellsI, List.mem_map, List.mem_range] at hv
  obtain ⟨i, _, rfl⟩ := hv
  rfl

theorem data_cells {n : Nat} {x : Nat → Int} (hn : n ≤ 4611686018427387904) (h : ∀ i, i < n → IntKind.u8.has (x i)) : dataB (cellsI .u8 n x) n 0 n n = true := dataB_iff.2 ⟨cellsI_length _ _ _, by omega, Nat.le_refl _, hn, fun i hi => by
  rw [Nat.zero_add, wd_cellsI hi]
  exact ⟨by simp [atC, cellsI, hi, isI], hasB_iff.2 (h i hi)⟩⟩

theorem slice_cells {n : Nat} {x : Nat → Int} (hn : n ≤ 4611686018427387904) : sliceB ⟨cellsI .u8 n x, true, 1, true⟩ n 0 n = true := sliceB_iff.2 ⟨cellsI_length _ _ _, by omega, hn, by rw [cut_cells]; exact all_cells⟩

theorem run3 (W : World) (base : Nat) (v0 : Value) (h0 : Value.okWide Try.prog W .any base 22 v0) {H : Type} {enc : TypeId × Value → H} {d : DataW H} {p : List MemPlace} (_ : DataW.Trod enc Try.prog W 0 (fun _ => true) true 22 v0 d p)
    (v1 : Value) (h1 : Value.okWide Try.prog W .any base 23 v1) {d1 : DataW H} {p1 : List MemPlace} (hd1 : DataW.Trod enc Try.prog W 0 (fun _ => true) true 23 v1 d1 p1) :
    groundL [v0, v1] = true ∧ ∃ ns, ACalls Try.prog (memOf W) 3 [v0, v1] [] (.bool true) [] ns := by
  obtain ⟨cs, rfl, hc⟩ := flat_ok k32 h0
  have hg : groundA ⟨cs⟩ = true := hc.ground
  obtain ⟨k, rfl, hk⟩ := cvs_cells (by exact ⟨by decide, by decide⟩) hc
  have hr : rngB (KC k) = true := rngB_cellsI hk
  rcases slice_arg (e := 5) Try.underlying23 Try.underlying5 (by kernel_rfl) h1 hd1 with rfl | ⟨b, off, n, c, x, rfl, hcap, _, hx⟩
  · refine ⟨by simp only [groundL, ground, hg, Bool.and_true], [], ?_⟩
    have hl : Held (lp k [] 0) := held_cons hr (held_one rfl)
    exact acalls_of_evFC (L3_sound _) mix Try.func3 (r3z _ k) (app_held (app_held hl hl) (held_cons (tag_self k [] 0) (held_cons rfl (held_cons rfl (held_one rfl)))))
  · refine ⟨by simp only [groundL, ground, hg, Bool.and_true, Option.isNone], [], ?_⟩
    by_cases hn : n ≤ 1048576
    · have hro : roAll (memOf W) b off n = true := roAll_iff.2 ⟨by omega, fun i hi => (hx.roB hi).1⟩
      have hD : dataB (DC (memOf W) b off n) n 0 n n = true := data_cells (by omega) fun i hi => by
        show IntKind.u8.has (vint ((memOf W b (off + i)).getD undef))
        rw [(hx.roB hi).2]
        exact hx.1 i
      have hl : Held (lp k (DC (memOf W) b off n) n) := held_cons hr (held_one hD)
      have hs : sliceB ⟨DC (memOf W) b off n, true, 1, true⟩ n 0 n = true := slice_cells (by omega)
      refine acalls_of_evFC (L3_sound _) mix Try.func3 (r3s _ k b off n c) (app_held (app_held (app_held (app_held (held_cons (by rw [decide_eq_false_iff_not]; omega) (held_one hro)) hl) (held_one hro)) hl) (held_cons (tag_self k _ n) (held_cons hro (held_cons hs (held_cons hs (held_one ?_))))))
      unfold DC
      rw [Nat.beq_refl, cut_cells, Bool.true_and]
      have := (eqB_iff (k := .u8) (a := cellsI .u8 n (roN (memOf W) b off)) (b := cellsI .u8 n (roN (memOf W) b off)) all_cells all_cells rfl).2 fun i _ => rfl
      rw [this]
      rfl
    · exact acalls_of_evFC (L3_sound _) mix Try.func3 (r3l _ k b off n c) (held_one (by rw [decide_eq_true_eq]; omega))

set_option maxRecDepth 100000 in
theorem FnExactPoly1305_lifted (os : Os) (started : os.Started) (H : Type) (enc : TypeId × Value → H) :
    ReturnsInHanded {} Try.checked os 3 .any (Rows.fnExactPoly1305Spec.pre6 enc Try.prog Try.f3 Rows.fnExactPoly1305Row.domain false) (Rows.fnExactPoly1305Spec.post enc Try.prog Try.f3 false true false false) :=
  lifted own (by kernel_rfl) Try.func3 (tb := 4) (by kernel_rfl) Try.underlying4 (by kernel_rfl) rfl (fun H ds h => by
      obtain ⟨_, _, rfl⟩ := len2 (l := ds) (h.trans (by kernel_rfl)); rfl)
    (fun W base H enc args ds ps h hv => by
      rw [show Try.f3.params = _ from Try.params3] at h hv
      obtain ⟨v0, v1, d0, d1, p0, p1, rfl, rfl, rfl, h0, h1⟩ := Go.ChangeShapes.trodAll_two h
      exact run3 W base v0 (hv 0 _ v0 rfl rfl) h0 v1 (hv 1 _ v1 rfl rfl) h1) os started enc
    (ChangeSpec.witness6 (enc := enc) (C := Try.checked) false ⟨#[], #[(.agg (Array.replicate 32 (.int .u8 0))), (.slice none 0 0)], []⟩ 64 (by kernel_rfl) (by kernel_rfl) (by kernel_rfl) (by kernel_rfl))

set_option maxRecDepth 100000 in
/-- The statement. -/
theorem FnExactPoly1305_holds : Rows.FnExactPoly1305Said :=
  OpenClaim.holds_of_wide 3 Try.f3 rfl rfl rfl rfl rfl rfl rfl ⟨rfl, rfl, rfl, rfl, rfl⟩ rfl rfl rfl rfl rfl (by kernel_rfl) Try.func3 (by kernel_rfl)
    (of_decide_eq_true (by kernel_rfl)) (by unfold Func.isWrapper; first | (rw [if_pos (by decide +kernel)]; kernel_rfl) | (rw [if_neg (by decide +kernel)]; exact ⟨rfl, rfl⟩))
    (fun os started H enc _ => FnExactPoly1305_lifted os started H enc)


end Go.Proofs.Ytgnbmjhljlbkhaa
