/- The specification's ladder by recursion, its ScalarMult and PublicKey; the program's PublicKey.
   Conditions: none. -/
import Derived.Test.YtjdckgnpocnifaaSpecPair
open Go.Ab Go.Num
set_option linter.unusedVariables false
set_option linter.unusedSimpArgs false
namespace Go.Proofs.Ytjdckgnpocnifaa

def Wp (p : Nat → Int) : Nat → Int := wd (cellsI .i64 32 p)

/-- One level of the ladder. -/
def stD (c : Bool) (x : Nat → Int) (s : (Nat → Int) × (Nat → Int)) : (Nat → Int) × (Nat → Int) :=
  match c with
  | true => (sumD (Wp s.1) (Wp s.2) (wd (cellsI .i64 16 x)), dblD (Wp s.2))
  | false => (dblD (Wp s.1), sumD (Wp s.1) (Wp s.2) (wd (cellsI .i64 16 x)))
/-- The pair behind d bits. -/
def ladD (k x : Nat → Int) : Nat → (Nat → Int) × (Nat → Int)
  | 0 => (join16 oneD zeroE, join16 x oneD)
  | d + 1 => stD (bitF k (254 - d)) x (ladD k x d)

def pairSum (d : Nat) : Sum :=
  { f := 29, ro := true
    S := fun args os => match args, os with
      | [.agg ⟨A⟩, .int .i64 n, .agg ⟨X⟩], [] => if isB 32 A && isD X then some (.tuple ⟨[.agg ⟨cellsI .i64 32 (ladD (wd A) (wd X) d).1⟩, .agg ⟨cellsI .i64 32 (ladD (wd A) (wd X) d).2⟩]⟩, [], []) else none
      | _, _ => none
    C := fun args _ => match args with
      | [.agg ⟨A⟩, .int .i64 n, .agg ⟨X⟩] => [(decide (n = 255 - (d : Int)), true), (rngB A, true), (leB 65535 X, true)]
      | _ => [] }

noncomputable def L29 (M : Mem) (d : Nat) : List Sum := [pairSum d, sumPSum 42, bitSum 43, dblSum 44, I41 M]

def kk (k : Nat → Int) : Nat → Int := wd (cellsI .u8 32 k)
def xx (x : Nat → Int) : Nat → Int := wd (cellsI .i64 16 x)
def pins29 (k x : Nat → Int) (n : Int) (d : Nat) (b : Bool) : Pins :=
  [(n == 255, false), (decide (IntKind.i64.wrap (n + 1) = 255 - (d : Int)), true), (rngB (cellsI .u8 32 k), true), (leB 65535 (cellsI .i64 16 x), true),
   (leB 65535 (cellsI .i64 32 (ladD (kk k) (xx x) d).1) && (leB 65535 (cellsI .i64 32 (ladD (kk k) (xx x) d).2) && leB 65535 (cellsI .i64 16 x)), true),
   (rngB (cellsI .u8 32 k), true), (decide (0 ≤ n) && decide (n ≤ 255), true), ((bif bitF (kk k) n.toNat then (1 : Int) else 0) == 1, b)]

set_option maxRecDepth 100000 in
theorem r29t (M : Mem) (k x : Nat → Int) (n : Int) (d : Nat) : evFC Try.prog M (L29 M d) [12, 33] 500 Try.f29 [.agg ⟨cellsI .u8 32 k⟩, .int .i64 n, .agg ⟨cellsI .i64 16 x⟩] [] [false, true]
   = some ((.tuple ⟨[.agg ⟨cellsI .i64 32 (sumD (Wp (ladD (kk k) (xx x) d).1) (Wp (ladD (kk k) (xx x) d).2) (xx x))⟩, .agg ⟨cellsI .i64 32 (dblD (Wp (ladD (kk k) (xx x) d).2))⟩]⟩, [], []),
      pins29 k x n d true ++ [(leB 65535 (cellsI .i64 32 (ladD (kk k) (xx x) d).2), true)]) := by kernel_rfl
set_option maxRecDepth 100000 in
theorem r29f (M : Mem) (k x : Nat → Int) (n : Int) (d : Nat) : evFC Try.prog M (L29 M d) [12, 33] 500 Try.f29 [.agg ⟨cellsI .u8 32 k⟩, .int .i64 n, .agg ⟨cellsI .i64 16 x⟩] [] [false, false]
   = some ((.tuple ⟨[.agg ⟨cellsI .i64 32 (dblD (Wp (ladD (kk k) (xx x) d).1))⟩, .agg ⟨cellsI .i64 32 (sumD (Wp (ladD (kk k) (xx x) d).1) (Wp (ladD (kk k) (xx x) d).2) (xx x))⟩]⟩, [], []),
      pins29 k x n d false ++ [(leB 65535 (cellsI .i64 32 (ladD (kk k) (xx x) d).1), true)]) := by kernel_rfl
set_option maxRecDepth 100000 in
theorem r29z (M : Mem) (k x : Nat → Int) (n : Int) : evFC Try.prog M [I41 M] [12] 500 Try.f29 [.agg ⟨cellsI .u8 32 k⟩, .int .i64 n, .agg ⟨cellsI .i64 16 x⟩] [] [true]
   = some ((.tuple ⟨[.agg ⟨cellsI .i64 32 (join16 oneD zeroE)⟩, .agg ⟨cellsI .i64 32 (join16 x oneD)⟩]⟩, [], []), [(n == 255, true)]) := by kernel_rfl

theorem Wp_dg {p : Nat → Int} (h : DgP p) : DgP (Wp p) := ⟨fun i hi => by unfold Wp; rw [wd_cellsI (by omega)]; exact h.1 i hi, fun i hi => by unfold hi16 Wp; rw [wd_cellsI (by omega)]; exact h.2 i hi⟩
theorem Wp_pt (p : Nat → Int) : ptD (Wp p) = ptD p := by
  simp only [ptD, Pt.mk.injEq]
  exact ⟨val_congr fun i hi => by unfold Wp; rw [wd_cellsI (by omega)], val_congr fun i hi => by unfold hi16 Wp; rw [wd_cellsI (by omega)]⟩
theorem leP_of {p : Nat → Int} (h : DgP p) : leB 65535 (cellsI .i64 32 p) = true := leB_iff.2 fun i hi => by
  by_cases hl : i < 16
  · have := h.1 i hl; omega
  · have := h.2 (i - 16) (by omega)
    unfold hi16 at this
    rw [show 16 + (i - 16) = i by omega] at this
    omega

theorem oneD_val : val D16 oneD 16 = 1 := by decide +kernel
theorem zeroD_val : val D16 zeroE 16 = 0 := by decide +kernel
theorem zeroD_dg : Dg 65536 16 zeroE := fun i _ => by unfold zeroE; omega

theorem ladD_dg {k x : Nat → Int} (hx : Dg 65536 16 x) : ∀ d, DgP (ladD k x d).1 ∧ DgP (ladD k x d).2 := by
  intro d
  induction d with
  | zero => exact ⟨join_dg oneD_bd zeroD_dg, join_dg hx oneD_bd⟩
  | succ d ih =>
    obtain ⟨h1, h2⟩ := ih
    have e : ladD k x (d + 1) = stD (bitF k (254 - d)) x (ladD k x d) := rfl
    rw [e]
    have a := (sum_ok (Wp_dg h1) (Wp_dg h2) (dgw hx)).1
    cases bitF k (254 - d) with
    | true => exact ⟨a, (dbl_ok (Wp_dg h2)).1⟩
    | false => exact ⟨(dbl_ok (Wp_dg h1)).1, a⟩

theorem ladD_eqp {k x : Nat → Int} (hx : Dg 65536 16 x) : ∀ d, EqP (ptD (ladD k x d).1) (lad (bitF k) (val D16 x 16) d).1 ∧ EqP (ptD (ladD k x d).2) (lad (bitF k) (val D16 x 16) d).2 := by
  intro d
  induction d with
  | zero =>
    refine ⟨?_, ?_⟩
    · show EqP (ptD (join16 oneD zeroE)) ⟨1, 0⟩
      rw [join_pt, oneD_val, zeroD_val]
      exact ⟨.refl _, .refl _⟩
    · show EqP (ptD (join16 x oneD)) ⟨val D16 x 16, 1⟩
      rw [join_pt, oneD_val]
      exact ⟨.refl _, .refl _⟩
  | succ d ih =>
    obtain ⟨h1, h2⟩ := ladD_dg (k := k) hx d
    obtain ⟨i1, i2⟩ := ih
    have e : ladD k x (d + 1) = stD (bitF k (254 - d)) x (ladD k x d) := rfl
    rw [e]
    have a := (sum_ok (Wp_dg h1) (Wp_dg h2) (dgw hx)).2.1
    rw [Wp_pt, Wp_pt, wd_val] at a
    have b1 := (dbl_ok (Wp_dg h1)).2.1
    have b2 := (dbl_ok (Wp_dg h2)).2.1
    rw [Wp_pt] at b1 b2
    cases hb : bitF k (254 - d) with
    | true =>
      simp only [lad, hb, if_true]
      exact ⟨EqP_trans a (dadd_eqp i1 i2 (.refl _)), EqP_trans b2 (dbl_eqp i2)⟩
    | false =>
      simp only [lad, hb]
      exact ⟨EqP_trans b1 (dbl_eqp i1), EqP_trans a (dadd_eqp i1 i2 (.refl _))⟩

theorem pair29 (M : Mem) : ∀ d, d ≤ 255 → (pairSum d).SoundC Try.prog M := by
  intro d
  induction d with
  | zero =>
    intro _
    refine sumC_sound Try.func29 (by kernel_rfl) (by kernel_rfl) fun args os v os' ns hs hp => ?_
    simp only [pairSum] at hs hp ⊢
    split at hs
    · rename_i A n X
      split at hs
      · rename_i hA
        cases hs
        simp only [Bool.and_eq_true] at hA
        have hn : decide (n = 255 - ((0 : Nat) : Int)) = true := hp (_, true) (List.Mem.head _)
        have hn := of_decide_eq_true hn
        have := acalls_of_evFC (consC (I41_s M).c nilC) mix Try.func29 (r29z M (wd A) (wd X) n) (held_one (by rw [hn]; rfl))
        have el : [Value.agg ⟨A⟩, .int .i64 n, .agg ⟨X⟩] = [Value.agg ⟨cellsI .u8 32 (wd A)⟩, .int .i64 n, .agg ⟨cellsI .i64 16 (wd X)⟩] := by rw [← isB_eq hA.1, ← isD_eq hA.2]
        rw [el]
        exact ⟨this, fun _ => rfl⟩
      · cases hs
    · cases hs
  | succ d ih =>
    intro hd
    have hL : ∀ s ∈ L29 M d, s.SoundC Try.prog M := consC (ih (by omega)) (consC (sum42 M) (consC (bit43 M) (consC (dbl44 M) (consC (I41_s M).c nilC))))
    refine sumC_sound Try.func29 (by kernel_rfl) (by kernel_rfl) fun args os v os' ns hs hp => ?_
    simp only [pairSum] at hs hp ⊢
    split at hs
    · rename_i A n X
      split at hs
      · rename_i hA
        cases hs
        simp only [Bool.and_eq_true] at hA
        have hn : decide (n = 255 - ((d + 1 : Nat) : Int)) = true := hp (_, true) (List.Mem.head _)
        have hn := of_decide_eq_true hn
        have hr : rngB A = true := hp (rngB A, true) (List.Mem.tail _ (List.Mem.head _))
        have hl : leB 65535 X = true := hp (leB 65535 X, true) (List.Mem.tail _ (List.Mem.tail _ (List.Mem.head _)))
        have hx := dg_of hA.2 hl
        obtain ⟨g1, g2⟩ := ladD_dg (k := wd A) hx d
        have ek : kk (wd A) = wd A := by unfold kk; rw [← isB_eq hA.1]
        have ex : xx (wd X) = wd X := by unfold xx; rw [← isD_eq hA.2]
        have el : [Value.agg ⟨A⟩, .int .i64 n, .agg ⟨X⟩] = [Value.agg ⟨cellsI .u8 32 (wd A)⟩, .int .i64 n, .agg ⟨cellsI .i64 16 (wd X)⟩] := by rw [← isB_eq hA.1, ← isD_eq hA.2]
        have en : n.toNat = 254 - d := by omega
        have ew : IntKind.i64.wrap (n + 1) = 255 - (d : Int) := by rw [w64 (by omega) (by omega)]; omega
        have hpins : ∀ b, bitF (wd A) (254 - d) = b → Held (pins29 (wd A) (wd X) n d b) := fun b hb => by
          unfold pins29
          rw [ek, ex, en, hb, ← isB_eq hA.1, ← isD_eq hA.2]
          refine held_cons (by rw [beq_eq_false_iff_ne]; omega) (held_cons (by rw [ew]; simp) (held_cons hr (held_cons hl (held_cons ?_ (held_cons hr (held_cons ?_ (held_one ?_)))))))
          · rw [leP_of g1, leP_of g2, hl]; rfl
          · simp only [Bool.and_eq_true, decide_eq_true_eq]; omega
          · cases b <;> rfl
        have es : ladD (wd A) (wd X) (d + 1) = stD (bitF (wd A) (254 - d)) (wd X) (ladD (wd A) (wd X) d) := rfl
        refine ⟨?_, fun _ => rfl⟩
        rw [es, el]
        cases hb : bitF (wd A) (254 - d) with
        | true =>
          have := acalls_of_evFC hL mix Try.func29 (r29t M (wd A) (wd X) n d) (held_app (hpins true hb) (held_one (by rw [ek, ex]; exact leP_of g2)))
          rw [ek, ex] at this
          have e2 : stD true (wd X) (ladD (wd A) (wd X) d) = (sumD (Wp (ladD (wd A) (wd X) d).1) (Wp (ladD (wd A) (wd X) d).2) (wd X), dblD (Wp (ladD (wd A) (wd X) d).2)) := by
            simp only [stD, ← isD_eq hA.2]
          rw [e2]
          exact this
        | false =>
          have := acalls_of_evFC hL mix Try.func29 (r29f M (wd A) (wd X) n d) (held_app (hpins false hb) (held_one (by rw [ek, ex]; exact leP_of g1)))
          rw [ek, ex] at this
          have e2 : stD false (wd X) (ladD (wd A) (wd X) d) = (dblD (Wp (ladD (wd A) (wd X) d).1), sumD (Wp (ladD (wd A) (wd X) d).1) (Wp (ladD (wd A) (wd X) d).2) (wd X)) := by
            simp only [stD, ← isD_eq hA.2]
          rw [e2]
          exact this
      · cases hs
    · cases hs

end Go.Proofs.Ytjdckgnpocnifaa
