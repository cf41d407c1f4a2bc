/- The specification's bits of a scalar.
   Conditions: the bytes are in range. -/
import Derived.Test.YtjdckgnpocnifaaSpecLad
open Go.Ab Go.Num
set_option linter.unusedVariables false
set_option linter.unusedSimpArgs false
namespace Go.Proofs.Ytjdckgnpocnifaa

def bD (S : List Value) (n : Int) : Nat → Int
  | 0 => IntKind.i64.wrap (vint (atC S (0 + (IntKind.i64.wrap (n.tdiv 8)).toNat * 1)))
  | j + 1 => IntKind.i64.wrap ((bD S n j).tdiv 2)
def cD (n : Int) : Nat → Int
  | 0 => n.tmod 8
  | j + 1 => IntKind.i64.wrap (cD n j - 1)
def cPins (n : Int) : Nat → Nat → Pins
  | j, 0 => [(decide (cD n j > 0), false)]
  | j, r + 1 => (decide (cD n j > 0), true) :: cPins n (j + 1) r
def b43Pins (S : List Value) (n : Int) (r : Nat) : Pins :=
  [(n == 255, false), (decide (n < 3), false), (n == 254, false), (inB (IntKind.i64.wrap (n.tdiv 8)) 32, true), (ldB .u8 ⟨S, false, 1, true⟩ 32 (0 + (IntKind.i64.wrap (n.tdiv 8)).toNat * 1), true)] ++ cPins n 0 r

set_option maxRecDepth 100000 in
theorem r43_0 (M : Mem) (k : Nat → Int) (n : Int) : evFU Try.prog M (ovX Try.prog M) [17, 18] [] [] [8, 11, 14, 23] 500 Try.f43 [.agg ⟨cellsI .u8 32 k⟩, .int .i64 n] [] [false, false, false, false]
   = some ((.int .i64 ((bD (cellsI .u8 32 k) n 0).tmod 2), [], []), b43Pins (cellsI .u8 32 k) n 0) := by kernel_rfl
set_option maxRecDepth 100000 in
theorem r43_1 (M : Mem) (k : Nat → Int) (n : Int) : evFU Try.prog M (ovX Try.prog M) [17, 18] [] [] [8, 11, 14, 23] 500 Try.f43 [.agg ⟨cellsI .u8 32 k⟩, .int .i64 n] [] [false, false, false, true, false]
   = some ((.int .i64 ((bD (cellsI .u8 32 k) n 1).tmod 2), [], []), b43Pins (cellsI .u8 32 k) n 1) := by kernel_rfl
set_option maxRecDepth 100000 in
theorem r43_2 (M : Mem) (k : Nat → Int) (n : Int) : evFU Try.prog M (ovX Try.prog M) [17, 18] [] [] [8, 11, 14, 23] 500 Try.f43 [.agg ⟨cellsI .u8 32 k⟩, .int .i64 n] [] [false, false, false, true, true, false]
   = some ((.int .i64 ((bD (cellsI .u8 32 k) n 2).tmod 2), [], []), b43Pins (cellsI .u8 32 k) n 2) := by kernel_rfl
set_option maxRecDepth 100000 in
theorem r43_3 (M : Mem) (k : Nat → Int) (n : Int) : evFU Try.prog M (ovX Try.prog M) [17, 18] [] [] [8, 11, 14, 23] 500 Try.f43 [.agg ⟨cellsI .u8 32 k⟩, .int .i64 n] [] [false, false, false, true, true, true, false]
   = some ((.int .i64 ((bD (cellsI .u8 32 k) n 3).tmod 2), [], []), b43Pins (cellsI .u8 32 k) n 3) := by kernel_rfl
set_option maxRecDepth 100000 in
theorem r43_4 (M : Mem) (k : Nat → Int) (n : Int) : evFU Try.prog M (ovX Try.prog M) [17, 18] [] [] [8, 11, 14, 23] 500 Try.f43 [.agg ⟨cellsI .u8 32 k⟩, .int .i64 n] [] [false, false, false, true, true, true, true, false]
   = some ((.int .i64 ((bD (cellsI .u8 32 k) n 4).tmod 2), [], []), b43Pins (cellsI .u8 32 k) n 4) := by kernel_rfl
set_option maxRecDepth 100000 in
theorem r43_5 (M : Mem) (k : Nat → Int) (n : Int) : evFU Try.prog M (ovX Try.prog M) [17, 18] [] [] [8, 11, 14, 23] 500 Try.f43 [.agg ⟨cellsI .u8 32 k⟩, .int .i64 n] [] [false, false, false, true, true, true, true, true, false]
   = some ((.int .i64 ((bD (cellsI .u8 32 k) n 5).tmod 2), [], []), b43Pins (cellsI .u8 32 k) n 5) := by kernel_rfl
set_option maxRecDepth 100000 in
theorem r43_6 (M : Mem) (k : Nat → Int) (n : Int) : evFU Try.prog M (ovX Try.prog M) [17, 18] [] [] [8, 11, 14, 23] 500 Try.f43 [.agg ⟨cellsI .u8 32 k⟩, .int .i64 n] [] [false, false, false, true, true, true, true, true, true, false]
   = some ((.int .i64 ((bD (cellsI .u8 32 k) n 6).tmod 2), [], []), b43Pins (cellsI .u8 32 k) n 6) := by kernel_rfl
set_option maxRecDepth 100000 in
theorem r43_7 (M : Mem) (k : Nat → Int) (n : Int) : evFU Try.prog M (ovX Try.prog M) [17, 18] [] [] [8, 11, 14, 23] 500 Try.f43 [.agg ⟨cellsI .u8 32 k⟩, .int .i64 n] [] [false, false, false, true, true, true, true, true, true, true, false]
   = some ((.int .i64 ((bD (cellsI .u8 32 k) n 7).tmod 2), [], []), b43Pins (cellsI .u8 32 k) n 7) := by kernel_rfl
theorem r43_255 (M : Mem) (k : Nat → Int) (n : Int) : evFU Try.prog M (ovX Try.prog M) [] [] [] [8, 11, 14] 500 Try.f43 [.agg ⟨cellsI .u8 32 k⟩, .int .i64 n] [] [true]
   = some ((.int .i64 0, [], []), [(n == 255, true)]) := by kernel_rfl
theorem r43_lo (M : Mem) (k : Nat → Int) (n : Int) : evFU Try.prog M (ovX Try.prog M) [] [] [] [8, 11, 14] 500 Try.f43 [.agg ⟨cellsI .u8 32 k⟩, .int .i64 n] [] [false, true]
   = some ((.int .i64 0, [], []), [(n == 255, false), (decide (n < 3), true)]) := by kernel_rfl
theorem r43_254 (M : Mem) (k : Nat → Int) (n : Int) : evFU Try.prog M (ovX Try.prog M) [] [] [] [8, 11, 14] 500 Try.f43 [.agg ⟨cellsI .u8 32 k⟩, .int .i64 n] [] [false, false, true]
   = some ((.int .i64 1, [], []), [(n == 255, false), (decide (n < 3), false), (n == 254, true)]) := by kernel_rfl

theorem cD_eq {n : Nat} (hn : n ≤ 255) : ∀ {j : Nat}, j ≤ n % 8 → cD n j = ((n % 8 - j : Nat) : Int) := by
  intro j
  induction j with
  | zero =>
    intro _
    show ((n : Int)).tmod 8 = _
    rw [Int.tmod_eq_emod_of_nonneg (by omega)]
    omega
  | succ j ih =>
    intro hj
    show IntKind.i64.wrap (cD n j - 1) = _
    rw [ih (by omega), w64 (by omega) (by omega)]
    omega

theorem bD_eq {k : Nat → Int} (hk : ∀ i, IntKind.u8.has (k i)) {n : Nat} (hn : n ≤ 255) : ∀ j, j ≤ 7 → bD (cellsI .u8 32 k) n j = k (n / 8) / 2 ^ j := by
  intro j
  have hb := has_u8 (hk (n / 8))
  induction j with
  | zero =>
    intro _
    have hq : ((n : Int)).tdiv 8 = (n : Int) / 8 := Int.tdiv_eq_ediv_of_nonneg (by omega)
    show IntKind.i64.wrap (vint (atC (cellsI .u8 32 k) (0 + (IntKind.i64.wrap ((n : Int).tdiv 8)).toNat * 1))) = _
    have i1 : 0 + (IntKind.i64.wrap ((n : Int).tdiv 8)).toNat * 1 = n / 8 := by rw [hq, w64 (by omega) (by omega)]; omega
    rw [i1, atC_cells (by omega)]
    simp only [vint]
    rw [w64 (by omega) (by omega)]
    simp
  | succ j ih =>
    intro hj
    have hp : (0 : Int) < 2 ^ j := Int.pow_pos (by decide)
    have h0 : 0 ≤ k (n / 8) / 2 ^ j := Int.ediv_nonneg hb.1 (by omega)
    have h1 : k (n / 8) / 2 ^ j ≤ k (n / 8) := Int.ediv_le_self _ hb.1
    show IntKind.i64.wrap ((bD (cellsI .u8 32 k) n j).tdiv 2) = _
    rw [ih (by omega), Int.tdiv_eq_ediv_of_nonneg h0, w64 (by omega) (by omega), Int.ediv_ediv_of_nonneg (by omega), ← Int.pow_succ]

theorem cPins_held {n : Nat} (hn : n ≤ 255) : ∀ (r j : Nat), j + r = n % 8 → Held (cPins n j r) := by
  intro r
  induction r with
  | zero => intro j hj; exact held_one (by rw [cD_eq hn (by omega)]; simp; omega)
  | succ r ih => intro j hj; exact held_cons (by rw [cD_eq hn (by omega)]; simp; omega) (ih (j + 1) (by omega))

def bitSum (f : FuncId) : Sum :=
  { f := f, ro := true
    S := fun args os => match args, os with
      | [.agg ⟨A⟩, .int .i64 n], [] => if isB 32 A then some (.int .i64 (bif bitF (wd A) n.toNat then 1 else 0), [], []) else none
      | _, _ => none
    C := fun args _ => match args with
      | [.agg ⟨A⟩, .int .i64 n] => [(rngB A, true), (decide (0 ≤ n) && decide (n ≤ 255), true)]
      | _ => [] }

theorem bit43a (M : Mem) {k : Nat → Int} (hk : ∀ i, IntKind.u8.has (k i)) {n : Nat} (hn : n ≤ 255) : ACalls Try.prog M 43 [.agg ⟨cellsI .u8 32 k⟩, .int .i64 n] [] (.int .i64 (bif bitF k n then 1 else 0)) [] [] := by
  by_cases h1 : n = 255
  · subst h1
    exact acalls_of_evFU (ovX_ok _ _) nilC mix Try.func43 (hooksOk_nil _) (r43_255 M k ((255 : Nat) : Int)) (held_one (by decide))
  · have p1 : ((n : Int) == 255) = false := by rw [beq_eq_false_iff_ne]; omega
    by_cases h2 : n < 3
    · have e : bitF k n = false := by unfold bitF; rw [if_pos (.inr h2)]
      rw [e]
      exact acalls_of_evFU (ovX_ok _ _) nilC mix Try.func43 (hooksOk_nil _) (r43_lo M k n) (held_cons p1 (held_one (by rw [decide_eq_true_eq]; omega)))
    · have p2 : decide ((n : Int) < 3) = false := by rw [decide_eq_false_iff_not]; omega
      by_cases h3 : n = 254
      · subst h3
        exact acalls_of_evFU (ovX_ok _ _) nilC mix Try.func43 (hooksOk_nil _) (r43_254 M k ((254 : Nat) : Int)) (held_cons (by decide) (held_cons (by decide) (held_one (by decide))))
      · have p3 : ((n : Int) == 254) = false := by rw [beq_eq_false_iff_ne]; omega
        have e : bitF k n = decide (k (n / 8) / 2 ^ (n % 8) % 2 = 1) := by unfold bitF; rw [if_neg (by omega), if_neg h3]
        have hb := has_u8 (hk (n / 8))
        have hp : (0 : Int) < 2 ^ (n % 8) := Int.pow_pos (by decide)
        have h0 : 0 ≤ k (n / 8) / 2 ^ (n % 8) := Int.ediv_nonneg hb.1 (by omega)
        have hv : (bD (cellsI .u8 32 k) n (n % 8)).tmod 2 = bif bitF k n then 1 else 0 := by
          rw [bD_eq hk hn _ (by omega), Int.tmod_eq_emod_of_nonneg h0, e]
          by_cases hd : k (n / 8) / 2 ^ (n % 8) % 2 = 1
          · rw [hd]; rfl
          · rw [decide_eq_false hd]
            simp only [cond_false]
            omega
        have hq : ((n : Int)).tdiv 8 = (n : Int) / 8 := Int.tdiv_eq_ediv_of_nonneg (by omega)
        have hw : IntKind.i64.wrap ((n : Int).tdiv 8) = (n : Int) / 8 := by rw [hq, w64 (by omega) (by omega)]
        have hh : ∀ r, r = n % 8 → Held (b43Pins (cellsI .u8 32 k) n r) := fun r hr => by
          refine held_app (held_cons p1 (held_cons p2 (held_cons p3 (held_cons (by rw [hw, inB_iff]; omega) (held_one ?_))))) (cPins_held hn r 0 (by omega))
          rw [hw]
          have : 0 + ((n : Int) / 8).toNat * 1 < 32 := by omega
          simp only [ldB, cellsI_length, atC_cells this, isI, decide_true, Bool.and_self]
        rw [← hv]
        rcases (by omega : n % 8 = 0 ∨ n % 8 = 1 ∨ n % 8 = 2 ∨ n % 8 = 3 ∨ n % 8 = 4 ∨ n % 8 = 5 ∨ n % 8 = 6 ∨ n % 8 = 7) with hr | hr | hr | hr | hr | hr | hr | hr <;> rw [hr]
        · exact acalls_of_evFU (ovX_ok _ _) nilC mix Try.func43 (hooksOk_nil _) (r43_0 M k n) (hh 0 hr.symm)
        · exact acalls_of_evFU (ovX_ok _ _) nilC mix Try.func43 (hooksOk_nil _) (r43_1 M k n) (hh 1 hr.symm)
        · exact acalls_of_evFU (ovX_ok _ _) nilC mix Try.func43 (hooksOk_nil _) (r43_2 M k n) (hh 2 hr.symm)
        · exact acalls_of_evFU (ovX_ok _ _) nilC mix Try.func43 (hooksOk_nil _) (r43_3 M k n) (hh 3 hr.symm)
        · exact acalls_of_evFU (ovX_ok _ _) nilC mix Try.func43 (hooksOk_nil _) (r43_4 M k n) (hh 4 hr.symm)
        · exact acalls_of_evFU (ovX_ok _ _) nilC mix Try.func43 (hooksOk_nil _) (r43_5 M k n) (hh 5 hr.symm)
        · exact acalls_of_evFU (ovX_ok _ _) nilC mix Try.func43 (hooksOk_nil _) (r43_6 M k n) (hh 6 hr.symm)
        · exact acalls_of_evFU (ovX_ok _ _) nilC mix Try.func43 (hooksOk_nil _) (r43_7 M k n) (hh 7 hr.symm)

theorem bit43 (M : Mem) : (bitSum 43).SoundC Try.prog M := sumC_sound Try.func43 (by kernel_rfl) (by kernel_rfl) fun args os v os' ns hs hp => by
  simp only [bitSum] at hs hp ⊢
  split at hs
  · rename_i A n
    split at hs
    · rename_i hA
      cases hs
      have hr : rngB A = true := hp (rngB A, true) (List.Mem.head _)
      have hn : (decide (0 ≤ n) && decide (n ≤ 255)) = true := hp (_, true) (List.Mem.tail _ (List.Mem.head _))
      simp only [Bool.and_eq_true, decide_eq_true_eq] at hn
      have := bit43a M (rngB_wd hr) (n := n.toNat) (by omega)
      rw [← isB_eq hA, show ((n.toNat : Nat) : Int) = n by omega] at this
      exact ⟨this, fun _ => rfl⟩
    · cases hs
  · cases hs

end Go.Proofs.Ytjdckgnpocnifaa
